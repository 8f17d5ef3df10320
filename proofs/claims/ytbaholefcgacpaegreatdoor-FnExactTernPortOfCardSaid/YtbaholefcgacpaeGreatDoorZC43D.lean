/- A part of the proof of FnExactTernPortOf. Texts put together: VFF, PFF, PCL0, VCL, PCL, PK0, VK, PK1, VK2, PK2, PLP, VN0, PN0, VN, PN1N, PCK0, VCKA, PCKB. -/
import Derived.Test.YtbaholefcgacpaeGreatDoorRows
import Derived.Test.YtbaholefcgacpaeGreatDoorZC43C
namespace Go.Proofs.YtbaholefcgacpaeGreatDoor
open Go.RowKit
set_option maxRecDepth 100000
set_option linter.unusedVariables false
set_option linter.unusedSimpArgs false
theorem kc19 (word:ByteArray) {K_:Prop} (p0_:word.size≤1048576) (k_:K_):(word.size≤1048576)∧(Imp (.v (.string word)) (.v (.string word)))∧K_:=⟨p0_,Imp.refl _,k_⟩
abbrev kh19 (word:ByteArray):Hint false Tryz.prog:=.call 19 (S19 word) (ok19 word) none
def F160 (word:ByteArray) (p1:Int) (p2:Int):Bool :=
 (decide (p1≤(F19 word)∧(F19 word)≤p2))
def S160 (word:ByteArray) (p1:Int) (p2:Int):Spec:=⟨[.r (.c (.v (.string word))),.rp ([.v (vI p1)]),.rp ([.v (vI p2)])],.v (.bool (F160 word p1 p2)),word.size≤1048576⟩
theorem ok160 (word:ByteArray) (p1:Int) (p2:Int):(S160 word p1 p2).ok Tryz.prog 160 false :=
 Qi mixed (fn:=Tryz.f160) (ct:=.seq .no (.seq (.reg [(1,kh19 word),(4,Re (F19 word) p1 p2)]) .no)) Tryz.func160 (fun (hpre0:word.size≤1048576)=>kc19 word (by omega) (Qie (F19 word) p1 p2 (fiB (decide (p1≤(F19 word)∧(F19 word)≤p2)) (F160 word p1 p2) rfl))) (by kernel_rfl)
def F147 (low:Int) (high:Int):Unit :=
 ()
def S147 (low:Int) (high:Int):Spec:=⟨[.r (.c (.v (vI low))),.r (.c (.v (vI high)))],.cl 160 [.pt 3 [.v (vI low)],.pt 3 [.v (vI high)]],True⟩
theorem ok147 (low:Int) (high:Int):(S147 low high).ok Tryz.prog 147 :=
 Qi mixed (fn:=Tryz.f147) (ct:=.seq .no (.seq .no .no)) Tryz.func147 (fun (_:True)=>(fun hF:(():Unit)=(F147 low high)=>ai (Imps.refl [.v (vI low)]) (ai (Imps.refl [.v (vI high)]) trivial)) rfl) (by kernel_rfl)
def F162 (word:ByteArray) (p1:List ByteArray):Bool :=
 (F163 p1 word)
def S162 (word:ByteArray) (p1:List ByteArray):Spec:=⟨[.r (.c (.v (.string word))),.rp ([.l 1 eStr p1])],.v (.bool (F162 word p1)),word.size≤1048576⟩
theorem ok162 (word:ByteArray) (p1:List ByteArray):(S162 word p1).ok Tryz.prog 162 :=
 Qi mixed (fn:=Tryz.f162) (ct:=.seq .no (.seq (.reg [(2,kh163 p1 word)]) .no)) Tryz.func162 (fun (hpre0:word.size≤1048576)=>kc163 p1 word (fiB (F163 p1 word) (F162 word p1) rfl)) (by kernel_rfl)
def F151 (words:List ByteArray):Unit :=
 ()
def S151 (words:List ByteArray):Spec:=⟨[.ow (.l 1 eStr words) none],.cl 162 [.pt 22 [.l 1 eStr words]],True⟩
theorem ok151 (words:List ByteArray):(S151 words).ok Tryz.prog 151 :=
 Qi mixed (fn:=Tryz.f151) (ct:=.seq .no (.seq .no .no)) Tryz.func151 (fun (_:True)=>(fun hF:(():Unit)=(F151 words)=>ai (Imps.refl [.l 1 eStr words]) trivial) rfl) (by kernel_rfl)
structure Qq where
 word:ByteArray
 key:Int
 checks:SV
 deriving Inhabited
def Ud (x:Qq):List Dat:=[.v (.string x.word),.v (vI x.key),.v (sv x.checks)]
def F154 (f:Qq) (p1:ByteArray):Bool :=
 (!(f.word.toList==p1.toList))
def S154 (f:Qq) (p1:ByteArray):Spec:=⟨[.r (.g (Ud f)),.rp ([.v (.string p1)])],.v (.bool (F154 f p1)),True⟩
theorem ok154 (f:Qq) (p1:ByteArray):(S154 f p1).ok Tryz.prog 154 :=
 Qi mixed (fn:=Tryz.f154) (ct:=.seq .no (.seq .no .no)) Tryz.func154 (fun (_:True)=>(fun hF:((!(f.word.toList==p1.toList)):Bool)=(F154 f p1)=>ai (congrArg (fun r:Bool=>(.bool r:Value)) hF) trivial) rfl) (by kernel_rfl)
def Yk (Q:Qq→Prop) (p:Qq→Bool):Ye:=⟨Qq,fun i=>[.g (pxH (Ud i) (Q i))],fun i=>.bool (p i)⟩
def Yr (s:List Qq) (f:Qq→Bool):Int→Lp Int Int:=fun v8 =>
 bif (decide (v8<(s.length:Int))) then (bif (f (s.getD v8.toNat default)) then (.ret v8) else (.next (v8+1))) else (.done v8)
def F164 (s:List Qq) (f:Qq→Bool):Int :=
 (runL (Yr s f) (((s.length:Int)-0).toNat+1) 0).fin (fun r=>r) (fun v8=>(-1))
def S164 (R:Int) (s:List Qq) (f:Qq→Bool) (Qf:Qq→Prop):Spec:=⟨[.r (.c (.l 3 Ud s)),.fn (Yk Qf f)],.v (vI R),(∀ k:Nat,k<s.length→Qf (s.getD k default))⟩
theorem ok164 (s:List Qq) (f:Qq→Bool) (Qf:Qq→Prop):(S164 (F164 s f) s f Qf).ok Tryz.prog 164 false :=
 Qi mixed (fn:=Tryz.f164) (ct:=.seqk [(0,0)] .no (.seq (.seqk [(0,0)] .no (.blk (.loop (ι:=Nat×Int) (fun i=>(fun (v8:Int)=>(⟨[(0,some (.h 0 0)),(1,some (.h 1 0)),(7,some (.v (vI (s.length:Int)))),(8,some (.v (vI v8)))],[(0,some (.shr none (.l 3 Ud s))),(1,some (.fn (Yk Qf f)))],2⟩:St)) i.2) (fun i=>runL (Yr s f) i.1 i.2=(runL (Yr s f) (((s.length:Int)-0).toNat+1) 0)∧(fun (v8:Int)=>(Int.toNat ((s.length:Int)-v8)<i.1∧(0:Int)≤v8)) i.2) (fun i=>i.1) ((((s.length:Int)-0).toNat+1),0) (fun i=>(fun (v8:Int)=>(.seq .no (.seq (.cond .no .no) (.seq (.blk (.seq .no (.seq (.reg [(5,.fnv (Yk Qf f) (s.getD v8.toNat default))]) (.cond (.seq .no .no) .no)))) (.reg [(0,.bnd)]))))) i.2)))) (.seq .no .no))) Tryz.func164 (fun (hpre0:∀ k:Nat,k<s.length→Qf (s.getD k default))=>kn s fun _=>kn s fun _=>ai (ai rfl (ai rfl (ai ir (ai rfl (ai (rfl:runL (Yr s f) (((s.length:Int)-0).toNat+1) 0=(runL (Yr s f) (((s.length:Int)-0).toNat+1) 0)) (ai (Nat.lt_succ_self _:Int.toNat ((s.length:Int)-0)<(((s.length:Int)-0).toNat+1)) (by omega:(0:Int)≤0)))))):((.int .i64 (s.length:Int):Value)=.int .i64 (s.length:Int))∧((.int .i64 0:Value)=.int .i64 0)∧(Imp (.l 3 Ud s) (.l 3 Ud s))∧(Yk Qf f=Yk Qf f)∧(runL (Yr s f) (((s.length:Int)-0).toNat+1) 0=(runL (Yr s f) (((s.length:Int)-0).toNat+1) 0)∧Int.toNat ((s.length:Int)-0)<(((s.length:Int)-0).toNat+1)∧(0:Int)≤0)) (fun (i0:Nat×Int) (hi0:runL (Yr s f) i0.1 i0.2=(runL (Yr s f) (((s.length:Int)-0).toNat+1) 0)∧(fun (v8:Int)=>(Int.toNat ((s.length:Int)-v8)<i0.1∧(0:Int)≤v8)) i0.2)=>(fun (m0:Nat) (v8:Int) (hI0:runL (Yr s f) (m0+1) v8=(runL (Yr s f) (((s.length:Int)-0).toNat+1) 0)) (_:Int.toNat ((s.length:Int)-v8)<m0+1) (hl0:m0<i0.1) (_:(0:Int)≤v8)=>ifd (v8<(s.length:Int)) (fun h2 _=>ai (by omega:ib v8 s) (ai (Eq.refl (Yk Qf f)) (ai (Imps.pxH (ds:=Ud (s.getD v8.toNat default)) (hpre0 v8.toNat (by omega))) (ifb (f (s.getD v8.toNat default)) (fun h3=>(fun hF:(v8:Int)=(F164 s f)=>ai (congrArg (fun r:Int=>(.int .i64 r:Value)) hF) trivial) (finR (Qr hI0 (condT h2 (condT h3 rfl))) rfl)) (fun h3=>ai (iok (v8+1) (by omega)) (Exists.intro (p:=fun j:Nat×Int=>(fun (v8_:Int)=>(((.int .i64 (s.length:Int):Value)=.int .i64 (s.length:Int))∧((.int .i64 (v8+1):Value)=.int .i64 v8_)∧(Imp (.l 3 Ud s) (.l 3 Ud s))∧(Yk Qf f=Yk Qf f)∧((runL (Yr s f) j.1 j.2=(runL (Yr s f) (((s.length:Int)-0).toNat+1) 0)∧Int.toNat ((s.length:Int)-v8_)<j.1∧(0:Int)≤v8_)∧j.1<i0.1))) j.2) (m0,(v8+1)) (ai rfl (ai rfl (ai ir (ai rfl (ai (ai (Qe hI0 (condT h2 (condF h3 rfl))) (ai (by omega:Int.toNat ((s.length:Int)-(v8+1))<m0) (by omega:(0:Int)≤(v8+1)))) hl0))))))))))) (fun h2 _=>(fun hD0_4:(runL (Yr s f) (((s.length:Int)-0).toNat+1) 0)=Lp.done v8=>(fun hF:((-1):Int)=(F164 s f)=>ai (congrArg (fun r:Int=>(.int .i64 r:Value)) hF) trivial) (finD hD0_4 rfl)) (Ql hI0 (condF h2 rfl)))) (i0.1-1) i0.2 (hd1 hi0.1 hi0.2.1) (hd2 hi0.2.1) (hd3 hi0.2.1) hi0.2.2)) (by kernel_rfl)
theorem as164 (s:List Qq) (f:Qq→Bool):F164 s f=(idxI f s):=by
 exact Wn f s (Yr s f) (fun i=>rfl)
theorem oa164 (s:List Qq) (f:Qq→Bool) (Qf:Qq→Prop):(S164 (idxI f s) s f Qf).ok Tryz.prog 164 false:=by
 intro hp; have h:=ok164 s f Qf hp; rw [as164 s f] at h; exact h
theorem g164_0 (s:List Qq) (f:Qq→Bool):(idxI f s)<(s.length:Int):=by
 exact Bv f s
theorem g164_1 (s:List Qq) (f:Qq→Bool):-1≤(idxI f s):=by
 (show -1≤idxI f s; unfold idxI; cases first (fun k=>f (s.getD k default)) s.length <;> simp only [oix] <;> omega)
def Yh (s:List Qq) (del:Qq→Bool):(Int×Int×List Qq)→Lp (Int×Int×List Qq) (List Qq):=fun (i41,j1,xs) =>
 bif (decide (j1<(xs.length:Int))) then (bif (!(del (xs.getD j1.toNat default))) then (.next ((i41+1),(j1+1),(xs.set (i41).toNat (xs.getD j1.toNat default)))) else (.next (i41,(j1+1),xs))) else (.done (i41,j1,xs))
def Lx (s:List Qq) (del:Qq→Bool):Lp (List Qq×Int) (List Qq) :=
 (runL (Yh s del) (((s.length:Int)-((idxI del s)+1)).toNat+1) ((idxI del s),((idxI del s)+1),s)).fin Lp.ret (fun (i41,j1,xs)=>.done (xs,i41))
def F153 (s:List Qq) (del:Qq→Bool):List Qq :=
 bif ((idxI del s)==(-1)) then s else ((Lx s del).fin (fun r=>r) (fun (s1,i40)=>((s1.take i40.toNat++List.replicate (s1.drop i40.toNat).length ((⟨(⟨#[]⟩:ByteArray),0,(⟨none,0,0⟩:SV)⟩:Qq):Qq)++s1.drop (i40.toNat+(s1.drop i40.toNat).length)).take i40.toNat)))
def S153 (R:List Qq) (s:List Qq) (del:Qq→Bool) (Qdel:Qq→Prop):Spec:=⟨[.ow (.l 3 Ud s) none,.fn (Yk Qdel del)],.ow (.l 3 Ud R),s.length≤1000000000∧(∀ k:Nat,k<s.length→Qdel (s.getD k default))⟩
abbrev Ve (xs:List Qq) (i41:Int) (j1:Int):=(xs.set (i41).toNat (xs.getD j1.toNat default))
theorem ok153 (s:List Qq) (del:Qq→Bool) (Qdel:Qq→Prop):(S153 (F153 s del) s del Qdel).ok Tryz.prog 153 false :=
 Qi mixed (fn:=Tryz.f153) (ct:=.seqk [(0,0)] .no (.seq (.reg [(2,.call 164 (S164 (idxI del s) s del Qdel) (oa164 s del Qdel) none)]) (.seq (.seq .no (.cond (.seq .no .no) .no)) (.cut (ι:=List Qq×Int) (fun j=>(fun (s1:List Qq) (i40:Int)=>(⟨[(0,some (.h 0 0)),(5,some (.v (vI i40)))],[(0,some (.own 0 (.l 3 Ud s1)))],1⟩:St)) j.1 j.2) (fun j=>(fun (s1:List Qq) (i40:Int)=>((Lx s del)=Lp.done j∧(0≤i40∧i40≤(s1.length:Int)))) j.1 j.2) (.seqk [(0,0)] (.reg [(1,.bnd)]) (.blk (.loop (ι:=Nat×(Int×Int×List Qq)) (fun i=>(fun (i41:Int) (j1:Int) (xs:List Qq)=>(⟨[(0,some (.h 0 0)),(1,some (.h 1 0)),(5,some (.v (vI i41))),(6,some (.v (vI j1)))],[(0,some (.own 0 (.l 3 Ud xs))),(1,some (.fn (Yk Qdel del)))],2⟩:St)) i.2.1 i.2.2.1 i.2.2.2) (fun i=>runL (Yh s del) i.1 i.2=(runL (Yh s del) (((s.length:Int)-((idxI del s)+1)).toNat+1) ((idxI del s),((idxI del s)+1),s))∧(fun (i41:Int) (j1:Int) (xs:List Qq)=>(Int.toNat ((xs.length:Int)-j1)<i.1∧(0≤i41∧i41<j1)∧j1≤(xs.length:Int)∧xs.length≤1000000000∧(∀ k:Nat,j1≤(k:Int)→k<xs.length→Qdel (xs.getD k default))∧xs.length=s.length)) i.2.1 i.2.2.1 i.2.2.2) (fun i=>i.1) ((((s.length:Int)-((idxI del s)+1)).toNat+1),((idxI del s),((idxI del s)+1),s)) (fun i=>(fun (i41:Int) (j1:Int) (xs:List Qq)=>(.seq (.seq .no (.cond .no .no)) (.seq (.blk (.seq .no (.seq (.reg [(2,.fnv (Yk Qdel del) (xs.getD j1.toNat default))]) (.cond (.seq (.reg [(4,.dat (.l 3 Ud (Ve xs i41 j1)))]) (.reg [(1,.bnd)])) .no)))) (.reg [(1,.bnd)])))) i.2.1 i.2.2.1 i.2.2.2)))) (fun j=>(fun (s1:List Qq) (i40:Int)=>(.seq (.reg [(2,.part),(3,.dat (.l 3 Ud (s1.take i40.toNat++List.replicate (s1.drop i40.toNat).length ((⟨w13_,0,(⟨none,0,0⟩:SV)⟩:Qq):Qq)++s1.drop (i40.toNat+(s1.drop i40.toNat).length))))]) (.seq (.reg [(2,.own)]) .no))) j.1 j.2))))) Tryz.func153 (fun (hp:s.length≤1000000000∧(∀ k:Nat,k<s.length→Qdel (s.getD k default)))=>have hpre0:=hp.1; have hpre1:=hp.2; kn s fun _=>ai (by assumption:∀ k:Nat,k<s.length→Qdel (s.getD k default)) (ai (Imp.refl (.l 3 Ud s)) (ai (Eq.refl (Yk Qdel del)) (have gv1:(idxI del s)<(s.length:Int):=g164_0 s del; have gv2:-1≤(idxI del s):=g164_1 s del; ife (idxI del s) (-1) (fun h3 _=>(fun hF:(s:List Qq)=(F153 s del)=>ai (Imp.of_eq (congrArg (fun r:List Qq=>Dat.l 3 Ud r) hF)) trivial) (condT h3 rfl)) (fun h3 _=>ai (ai (iok ((idxI del s)+1) (by omega)) (kn s fun _=>ai (ai rfl (ai rfl (ai ir (ai rfl (ai (rfl:runL (Yh s del) (((s.length:Int)-((idxI del s)+1)).toNat+1) ((idxI del s),((idxI del s)+1),s)=(runL (Yh s del) (((s.length:Int)-((idxI del s)+1)).toNat+1) ((idxI del s),((idxI del s)+1),s))) (ai (Nat.lt_succ_self _:Int.toNat ((s.length:Int)-((idxI del s)+1))<(((s.length:Int)-((idxI del s)+1)).toNat+1)) (ai (by omega:0≤(idxI del s)∧(idxI del s)<((idxI del s)+1)) (ai (by omega:((idxI del s)+1)≤(s.length:Int)) (ai (by omega:s.length≤1000000000) (ai (by (intro k hk hk2; exact (by assumption:∀ k:Nat,k<s.length→Qdel (s.getD k default)) k hk2):∀ k:Nat,((idxI del s)+1)≤(k:Int)→k<s.length→Qdel (s.getD k default)) (by omega:s.length=s.length)))))))))):((.int .i64 (idxI del s):Value)=.int .i64 (idxI del s))∧((.int .i64 ((idxI del s)+1):Value)=.int .i64 ((idxI del s)+1))∧(Imp (.l 3 Ud s) (.l 3 Ud s))∧(Yk Qdel del=Yk Qdel del)∧(runL (Yh s del) (((s.length:Int)-((idxI del s)+1)).toNat+1) ((idxI del s),((idxI del s)+1),s)=(runL (Yh s del) (((s.length:Int)-((idxI del s)+1)).toNat+1) ((idxI del s),((idxI del s)+1),s))∧Int.toNat ((s.length:Int)-((idxI del s)+1))<(((s.length:Int)-((idxI del s)+1)).toNat+1)∧(0≤(idxI del s)∧(idxI del s)<((idxI del s)+1))∧((idxI del s)+1)≤(s.length:Int)∧s.length≤1000000000∧(∀ k:Nat,((idxI del s)+1)≤(k:Int)→k<s.length→Qdel (s.getD k default))∧s.length=s.length)) (fun (i0:Nat×(Int×Int×List Qq)) (hi0:runL (Yh s del) i0.1 i0.2=(runL (Yh s del) (((s.length:Int)-((idxI del s)+1)).toNat+1) ((idxI del s),((idxI del s)+1),s))∧(fun (i41:Int) (j1:Int) (xs:List Qq)=>(Int.toNat ((xs.length:Int)-j1)<i0.1∧(0≤i41∧i41<j1)∧j1≤(xs.length:Int)∧xs.length≤1000000000∧(∀ k:Nat,j1≤(k:Int)→k<xs.length→Qdel (xs.getD k default))∧xs.length=s.length)) i0.2.1 i0.2.2.1 i0.2.2.2)=>(fun (m0:Nat) (i41:Int) (j1:Int) (xs:List Qq) (hI0:runL (Yh s del) (m0+1) (i41,j1,xs)=(runL (Yh s del) (((s.length:Int)-((idxI del s)+1)).toNat+1) ((idxI del s),((idxI del s)+1),s))) (_:Int.toNat ((xs.length:Int)-j1)<m0+1) (hl0:m0<i0.1) (_:0≤i41∧i41<j1) (_:j1≤(xs.length:Int)) (_:xs.length≤1000000000) (_:∀ k:Nat,j1≤(k:Int)→k<xs.length→Qdel (xs.getD k default)) (_:xs.length=s.length)=>ifd (j1<(xs.length:Int)) (fun h5 _=>ai (by omega:ib j1 xs) (ai (Eq.refl (Yk Qdel del)) (ai (Imps.pxH (ds:=Ud (xs.getD j1.toNat default)) ((by assumption:∀ k:Nat,j1≤(k:Int)→k<xs.length→Qdel (xs.getD k default)) j1.toNat (by omega) (by omega))) (ifb (!(del (xs.getD j1.toNat default))) (fun h6=>have _:=(Jk h6); ai (by omega:ib i41 xs) (ai (setr 3 Ud xs (i41).toNat (xs.getD j1.toNat default)) (ai (iok (i41+1) (by omega)) (ai (iok (j1+1) (by omega)) (Exists.intro (p:=fun j:Nat×(Int×Int×List Qq)=>(fun (i41_:Int) (j1_:Int) (xs_:List Qq)=>(((.int .i64 (i41+1):Value)=.int .i64 i41_)∧((.int .i64 (j1+1):Value)=.int .i64 j1_)∧(Imp (.l 3 Ud (Ve xs i41 j1)) (.l 3 Ud xs_))∧(Yk Qdel del=Yk Qdel del)∧((runL (Yh s del) j.1 j.2=(runL (Yh s del) (((s.length:Int)-((idxI del s)+1)).toNat+1) ((idxI del s),((idxI del s)+1),s))∧Int.toNat ((xs_.length:Int)-j1_)<j.1∧(0≤i41_∧i41_<j1_)∧j1_≤(xs_.length:Int)∧xs_.length≤1000000000∧(∀ k:Nat,j1_≤(k:Int)→k<xs_.length→Qdel (xs_.getD k default))∧xs_.length=s.length)∧j.1<i0.1))) j.2.1 j.2.2.1 j.2.2.2) (m0,((i41+1),(j1+1),(Ve xs i41 j1))) (ai rfl (ai rfl (ai ir (ai rfl (ai (ai (Qe hI0 (condT h5 (condT h6 rfl))) (ai (by (simp only [lens,ib] at*<;> omega):Int.toNat (((Ve xs i41 j1).length:Int)-(j1+1))<m0) (ai (by omega:0≤(i41+1)∧(i41+1)<(j1+1)) (ai (by (simp only [lens,ib] at*<;> omega):(j1+1)≤((Ve xs i41 j1).length:Int)) (ai (by (simp only [lens,ib] at*<;> omega):(Ve xs i41 j1).length≤1000000000) (ai (by (intro k hk hk2; (rw [Ul _ _ _ _ (by omega)]; exact (by assumption:∀ k:Nat,j1≤(k:Int)→k<xs.length→Qdel (xs.getD k default)) k (by omega) (by simpa using hk2))):∀ k:Nat,(j1+1)≤(k:Int)→k<(Ve xs i41 j1).length→Qdel ((Ve xs i41 j1).getD k default)) (by (simp only [lens,ib] at*<;> omega):(Ve xs i41 j1).length=s.length))))))) hl0)))))))))) (fun h6=>have _:=(Yi h6); ai (iok (j1+1) (by omega)) (Exists.intro (p:=fun j:Nat×(Int×Int×List Qq)=>(fun (i41_:Int) (j1_:Int) (xs_:List Qq)=>(((.int .i64 i41:Value)=.int .i64 i41_)∧((.int .i64 (j1+1):Value)=.int .i64 j1_)∧(Imp (.l 3 Ud xs) (.l 3 Ud xs_))∧(Yk Qdel del=Yk Qdel del)∧((runL (Yh s del) j.1 j.2=(runL (Yh s del) (((s.length:Int)-((idxI del s)+1)).toNat+1) ((idxI del s),((idxI del s)+1),s))∧Int.toNat ((xs_.length:Int)-j1_)<j.1∧(0≤i41_∧i41_<j1_)∧j1_≤(xs_.length:Int)∧xs_.length≤1000000000∧(∀ k:Nat,j1_≤(k:Int)→k<xs_.length→Qdel (xs_.getD k default))∧xs_.length=s.length)∧j.1<i0.1))) j.2.1 j.2.2.1 j.2.2.2) (m0,(i41,(j1+1),xs)) (ai rfl (ai rfl (ai ir (ai rfl (ai (ai (Qe hI0 (condT h5 (condF h6 rfl))) (ai (by omega:Int.toNat ((xs.length:Int)-(j1+1))<m0) (ai (by omega:0≤i41∧i41<(j1+1)) (ai (by omega:(j1+1)≤(xs.length:Int)) (ai (by omega:xs.length≤1000000000) (ai (by (intro k hk hk2; exact (by assumption:∀ k:Nat,j1≤(k:Int)→k<xs.length→Qdel (xs.getD k default)) k (by omega) hk2):∀ k:Nat,(j1+1)≤(k:Int)→k<xs.length→Qdel (xs.getD k default)) (by omega:xs.length=s.length))))))) hl0))))))))))) (fun h5 _=>(fun hD0_7:(runL (Yh s del) (((s.length:Int)-((idxI del s)+1)).toNat+1) ((idxI del s),((idxI del s)+1),s))=Lp.done (i41,j1,xs)=>Exists.intro (p:=fun j:List Qq×Int=>(fun (s1_:List Qq) (i40_:Int)=>(((.int .i64 i41:Value)=.int .i64 i40_)∧(Imp (.l 3 Ud xs) (.l 3 Ud s1_))∧(Lx s del)=Lp.done j∧(0≤i40_∧i40_≤(s1_.length:Int)))) j.1 j.2) (xs,i41) (ai rfl (ai ir (ai (Eq.symm (finD hD0_7 rfl)) (by omega:0≤i41∧i41≤(xs.length:Int)))))) (Ql hI0 (condF h5 rfl)))) (i0.1-1) i0.2.1 i0.2.2.1 i0.2.2.2 (hd1 hi0.1 hi0.2.1) (hd2 hi0.2.1) (hd3 hi0.2.1) hi0.2.2.1 hi0.2.2.2.1 hi0.2.2.2.2.1 hi0.2.2.2.2.2.1 hi0.2.2.2.2.2.2))) (fun (j:List Qq×Int) (hj:(fun (s1:List Qq) (i40:Int)=>((Lx s del)=Lp.done j∧(0≤i40∧i40≤(s1.length:Int)))) j.1 j.2)=>(fun (s1:List Qq) (i40:Int) (hJ0_8:(Lx s del)=Lp.done (s1,i40)) (_:0≤i40∧i40≤(s1.length:Int))=>ai (by omega:0≤i40∧i40≤(s1.length:Int)∧(s1.length:Int)≤(s1.length:Int)) (ai (ClearOK.mk Ud s1 ((⟨w13_,0,(⟨none,0,0⟩:SV)⟩:Qq):Qq) rfl (fun y e he=>by simp only [Ud,List.mem_cons,List.not_mem_nil,or_false] at he; rcases he with rfl | rfl | rfl <;> exact ⟨_,rfl⟩):ClearOK (.l 3 Ud s1) i40.toNat (s1.drop i40.toNat).length 3 [.string w13_,.int .i64 0,.slice none 0 0] (.l 3 Ud (s1.take i40.toNat++List.replicate (s1.drop i40.toNat).length ((⟨w13_,0,(⟨none,0,0⟩:SV)⟩:Qq):Qq)++s1.drop (i40.toNat+(s1.drop i40.toNat).length)))) (ai (by (simp only [lens,ib] at*<;> omega):0≤(0:Int)∧(0:Int)≤i40∧i40≤((s1.take i40.toNat++List.replicate (s1.drop i40.toNat).length ((⟨w13_,0,(⟨none,0,0⟩:SV)⟩:Qq):Qq)++s1.drop (i40.toNat+(s1.drop i40.toNat).length)).length:Int)) ((fun hF:(((s1.take i40.toNat++List.replicate (s1.drop i40.toNat).length ((⟨w13_,0,(⟨none,0,0⟩:SV)⟩:Qq):Qq)++s1.drop (i40.toNat+(s1.drop i40.toNat).length)).take i40.toNat):List Qq)=(F153 s del)=>ai (Imp.of_eq (congrArg (fun r:List Qq=>Dat.l 3 Ud r) hF)) trivial) (condF h3 (finD hJ0_8 rfl)))))) j.1 j.2 hj.1 hj.2)))))) (by kernel_rfl)
theorem as153 (s:List Qq) (del:Qq→Bool):F153 s del=(s.filter (fun x=>!(del x))):=by
 exact Qib del s _ (Yh s del) (fun i j xs=>rfl)
theorem oa153 (s:List Qq) (del:Qq→Bool) (Qdel:Qq→Prop):(S153 (s.filter (fun x=>!(del x))) s del Qdel).ok Tryz.prog 153 false:=by
 intro hp; have h:=ok153 s del Qdel hp; rw [as153 s del] at h; exact h
def Ka (p:ByteArray→Bool):Ye:=⟨ByteArray,fun i=>[.c (.x (BX i 1048576))],fun i=>.bool (p i)⟩
def Vq (p:ByteArray→Bool):List Dat:=[.x (FnX Tryz.prog (Ka p))]
structure form where
 word:ByteArray
 key:Int
 checks:List (ByteArray→Bool)
 deriving Inhabited
def Gs (x:form):List Dat:=[.v (.string x.word),.v (vI x.key),.l 1 Vq x.checks]
theorem Ph (low:Int) (high:Int) {K_:Prop} (k_:K_):(True)∧(Imp (.v (vI low)) (.v (vI low)))∧(Imp (.v (vI high)) (.v (vI high)))∧K_:=⟨trivial,Imp.refl _,Imp.refl _,k_⟩
theorem kc151 (words:List ByteArray) {K_:Prop} (k_:K_):(True)∧(Imp (.l 1 eStr words) (.l 1 eStr words))∧K_:=⟨trivial,Imp.refl _,k_⟩
abbrev Vv (low:Int) (high:Int):Hint false Tryz.prog:=.call 147 (S147 low high) ((ok147 low high).to false) none
abbrev Qwt (words:List ByteArray):Hint false Tryz.prog:=.call 151 (S151 words) ((ok151 words).to false) none
def Zy (x:Nat→SV):List Qq:=[⟨(⟨#[104,111,115,116]⟩:ByteArray),1,x 0⟩,⟨(⟨#[117,115,101,114]⟩:ByteArray),2,x 1⟩,⟨(⟨#[112,111,114,116]⟩:ByteArray),2,x 2⟩,⟨(⟨#[112,111,114,116]⟩:ByteArray),2,x 3⟩,⟨(⟨#[114,117,108,101]⟩:ByteArray),3,x 4⟩,⟨(⟨#[114,111,117,116,101]⟩:ByteArray),3,x 5⟩,⟨(⟨#[112,101,101,114]⟩:ByteArray),2,x 6⟩,⟨(⟨#[110,97,116]⟩:ByteArray),1,x 7⟩,⟨(⟨#[100,111,111,114]⟩:ByteArray),3,x 8⟩]
def all126:List form:=[⟨(⟨#[104,111,115,116]⟩:ByteArray),1,[(fun x0=>F148 x0)]⟩,⟨(⟨#[117,115,101,114]⟩:ByteArray),2,[(fun x0=>F148 x0),(fun x0=>F149 x0)]⟩,⟨(⟨#[112,111,114,116]⟩:ByteArray),2,[(fun x0=>F160 x0 0 7),(fun x0=>F150 x0)]⟩,⟨(⟨#[112,111,114,116]⟩:ByteArray),2,[(fun x0=>F160 x0 0 7),(fun x0=>F150 x0),(fun x0=>F162 x0 ([(⟨#[105,110]⟩:ByteArray)]:List ByteArray)),(fun x0=>F148 x0)]⟩,⟨(⟨#[114,117,108,101]⟩:ByteArray),3,[(fun x0=>F148 x0),(fun x0=>F160 x0 0 99),(fun x0=>F162 x0 ([(⟨#[112,101,114,109,105,116]⟩:ByteArray),(⟨#[100,101,110,121]⟩:ByteArray)]:List ByteArray)),(fun x0=>F150 x0),(fun x0=>F150 x0),(fun x0=>F160 x0 0 7)]⟩,⟨(⟨#[114,111,117,116,101]⟩:ByteArray),3,[(fun x0=>F150 x0),(fun x0=>F152 x0)]⟩,⟨(⟨#[112,101,101,114]⟩:ByteArray),2,[(fun x0=>F152 x0),(fun x0=>F160 x0 1 9),(fun x0=>F160 x0 1 999999)]⟩,⟨(⟨#[110,97,116]⟩:ByteArray),1,[(fun x0=>F150 x0),(fun x0=>F152 x0),(fun x0=>F160 x0 1 65535),(fun x0=>F160 x0 1 65535)]⟩,⟨(⟨#[100,111,111,114]⟩:ByteArray),3,[(fun x0=>F160 x0 1 7),(fun x0=>F160 x0 1 65535),(fun x0=>F152 x0),(fun x0=>F160 x0 1 65535)]⟩]
def Vh (x:Nat→SV):List (Value×Dat):=[(sv (x 0),.l 1 Vq [(fun x0=>F148 x0)]),(sv (x 1),.l 1 Vq [(fun x0=>F148 x0),(fun x0=>F149 x0)]),(sv (x 2),.l 1 Vq [(fun x0=>F160 x0 0 7),(fun x0=>F150 x0)]),(sv (x 3),.l 1 Vq [(fun x0=>F160 x0 0 7),(fun x0=>F150 x0),(fun x0=>F162 x0 ([(⟨#[105,110]⟩:ByteArray)]:List ByteArray)),(fun x0=>F148 x0)]),(sv (x 4),.l 1 Vq [(fun x0=>F148 x0),(fun x0=>F160 x0 0 99),(fun x0=>F162 x0 ([(⟨#[112,101,114,109,105,116]⟩:ByteArray),(⟨#[100,101,110,121]⟩:ByteArray)]:List ByteArray)),(fun x0=>F150 x0),(fun x0=>F150 x0),(fun x0=>F160 x0 0 7)]),(sv (x 5),.l 1 Vq [(fun x0=>F150 x0),(fun x0=>F152 x0)]),(sv (x 6),.l 1 Vq [(fun x0=>F152 x0),(fun x0=>F160 x0 1 9),(fun x0=>F160 x0 1 999999)]),(sv (x 7),.l 1 Vq [(fun x0=>F150 x0),(fun x0=>F152 x0),(fun x0=>F160 x0 1 65535),(fun x0=>F160 x0 1 65535)]),(sv (x 8),.l 1 Vq [(fun x0=>F160 x0 1 7),(fun x0=>F160 x0 1 65535),(fun x0=>F152 x0),(fun x0=>F160 x0 1 65535)])]
def Qqx:FnH Tryz.prog:=⟨true,148,Ka (fun x0=>F148 x0),[],rfl,True,fun i=>Qeb (ok148 i)⟩
theorem Qra:Uc Tryz.prog 148=true:=by kernel_rfl
def fh149:FnH Tryz.prog:=⟨true,149,Ka (fun x0=>F149 x0),[],rfl,True,fun i=>Qeb (ok149 i)⟩
theorem ca149:Uc Tryz.prog 149=true:=by kernel_rfl
def Qek:FnH Tryz.prog:=⟨false,150,Ka (fun x0=>F150 x0),[],rfl,True,fun i=>Qeb (ok150 i)⟩
theorem Qcv:Uc Tryz.prog 150=true:=by kernel_rfl
def Qod:FnH Tryz.prog:=⟨false,152,Ka (fun x0=>F152 x0),[],rfl,True,fun i=>Qeb (ok152 i)⟩
theorem Qpm:Uc Tryz.prog 152=true:=by kernel_rfl
def Xq (a b:Int):FnH Tryz.prog:=⟨false,160,Ka (fun x0=>F160 x0 a b),[.rp [.v (vI a)],.rp [.v (vI b)]],rfl,True,fun i=>Qeb (ok160 i a b)⟩
theorem Vs:Uc Tryz.prog 160=true:=by kernel_rfl
def fh162 (l:List ByteArray):FnH Tryz.prog:=⟨true,162,Ka (fun x0=>F162 x0 l),[.rp [.l 1 eStr l]],rfl,True,fun i=>Qeb (ok162 i l)⟩
theorem ca162:Uc Tryz.prog 162=true:=by kernel_rfl
theorem Ude (word:ByteArray):Qkx Tryz.prog 45 (fun _:Unit=>(⟨[(1,some (.p 0 0)),(5,some (.h 1 0)),(8,some (.h 2 0))],[(0,some (.box 9 [.v (.string word)])),(1,some (.arr 9 [.v (.string (⟨#[104,111,115,116]⟩:ByteArray)),.v (vI 1),.h 2 0,.v (.string (⟨#[117,115,101,114]⟩:ByteArray)),.v (vI 2),.h 3 0,.v (.string (⟨#[112,111,114,116]⟩:ByteArray)),.v (vI 2),.h 4 0,.v (.string (⟨#[112,111,114,116]⟩:ByteArray)),.v (vI 2),.h 7 0,.v (.string (⟨#[114,117,108,101]⟩:ByteArray)),.v (vI 3),.h 12 0,.v (.string (⟨#[114,111,117,116,101]⟩:ByteArray)),.v (vI 3),.h 19 0,.v (.string (⟨#[112,101,101,114]⟩:ByteArray)),.v (vI 2),.h 20 0,.v (.string (⟨#[110,97,116]⟩:ByteArray)),.v (vI 1),.h 25 0,.v (.string (⟨#[100,111,111,114]⟩:ByteArray)),.v (vI 3),.h 28 0])),(2,some (.arr 1 [.cl 148 []])),(3,some (.arr 2 [.cl 148 [],.cl 149 []])),(4,some (.arr 2 [.cl 160 [.p 5 0,.p 6 0],.cl 150 []])),(5,some (.box 3 [.v (vI 0)])),(6,some (.box 3 [.v (vI 7)])),(7,some (.arr 4 [.cl 160 [.p 8 0,.p 9 0],.cl 150 [],.cl 162 [.p 10 0],.cl 148 []])),(8,some (.box 3 [.v (vI 0)])),(9,some (.box 3 [.v (vI 7)])),(10,some (.box 22 [.h 11 0])),(11,some (.own 11 (.l 1 eStr ([(⟨#[105,110]⟩:ByteArray)]:List ByteArray)))),(12,some (.arr 6 [.cl 148 [],.cl 160 [.p 13 0,.p 14 0],.cl 162 [.p 15 0],.cl 150 [],.cl 150 [],.cl 160 [.p 17 0,.p 18 0]])),(13,some (.box 3 [.v (vI 0)])),(14,some (.box 3 [.v (vI 99)])),(15,some (.box 22 [.h 16 0])),(16,some (.own 16 (.l 1 eStr ([(⟨#[112,101,114,109,105,116]⟩:ByteArray),(⟨#[100,101,110,121]⟩:ByteArray)]:List ByteArray)))),(17,some (.box 3 [.v (vI 0)])),(18,some (.box 3 [.v (vI 7)])),(19,some (.arr 2 [.cl 150 [],.cl 152 []])),(20,some (.arr 3 [.cl 152 [],.cl 160 [.p 21 0,.p 22 0],.cl 160 [.p 23 0,.p 24 0]])),(21,some (.box 3 [.v (vI 1)])),(22,some (.box 3 [.v (vI 9)])),(23,some (.box 3 [.v (vI 1)])),(24,some (.box 3 [.v (vI 999999)])),(25,some (.arr 4 [.cl 150 [],.cl 152 [],.cl 160 [.p 26 0,.p 27 0],.cl 160 [.p 26 0,.p 27 0]])),(26,some (.box 3 [.v (vI 1)])),(27,some (.box 3 [.v (vI 65535)])),(28,some (.arr 4 [.cl 160 [.p 29 0,.p 30 0],.cl 160 [.p 26 0,.p 27 0],.cl 152 [],.cl 160 [.p 26 0,.p 27 0]])),(29,some (.box 3 [.v (vI 1)])),(30,some (.box 3 [.v (vI 7)]))],31⟩:St)) (fun _=>True) (fun x:Nat→SV=>(⟨[(1,some (.p 0 0)),(5,some (.h 1 0)),(8,some (.h 2 0))],[(0,some (.box 9 [.v (.string word)])),(1,some (.own 1 (.l 3 Ud (Zy x)))),(2,some (.own 2 (.x (LX (Vh x)))))],31⟩:St)) (fun _=>True):=by
 intro ψ IN w0 w a i _ H
 obtain ⟨β,φ,dom,V⟩:=H
 have R:=V.rel
 have hall:Qne (fsG (⟨[(1,some (.p 0 0)),(5,some (.h 1 0)),(8,some (.h 2 0))],[(0,some (.box 9 [.v (.string word)])),(1,some (.arr 9 [.v (.string (⟨#[104,111,115,116]⟩:ByteArray)),.v (vI 1),.h 2 0,.v (.string (⟨#[117,115,101,114]⟩:ByteArray)),.v (vI 2),.h 3 0,.v (.string (⟨#[112,111,114,116]⟩:ByteArray)),.v (vI 2),.h 4 0,.v (.string (⟨#[112,111,114,116]⟩:ByteArray)),.v (vI 2),.h 7 0,.v (.string (⟨#[114,117,108,101]⟩:ByteArray)),.v (vI 3),.h 12 0,.v (.string (⟨#[114,111,117,116,101]⟩:ByteArray)),.v (vI 3),.h 19 0,.v (.string (⟨#[112,101,101,114]⟩:ByteArray)),.v (vI 2),.h 20 0,.v (.string (⟨#[110,97,116]⟩:ByteArray)),.v (vI 1),.h 25 0,.v (.string (⟨#[100,111,111,114]⟩:ByteArray)),.v (vI 3),.h 28 0])),(2,some (.arr 1 [.cl 148 []])),(3,some (.arr 2 [.cl 148 [],.cl 149 []])),(4,some (.arr 2 [.cl 160 [.p 5 0,.p 6 0],.cl 150 []])),(5,some (.box 3 [.v (vI 0)])),(6,some (.box 3 [.v (vI 7)])),(7,some (.arr 4 [.cl 160 [.p 8 0,.p 9 0],.cl 150 [],.cl 162 [.p 10 0],.cl 148 []])),(8,some (.box 3 [.v (vI 0)])),(9,some (.box 3 [.v (vI 7)])),(10,some (.box 22 [.h 11 0])),(11,some (.own 11 (.l 1 eStr ([(⟨#[105,110]⟩:ByteArray)]:List ByteArray)))),(12,some (.arr 6 [.cl 148 [],.cl 160 [.p 13 0,.p 14 0],.cl 162 [.p 15 0],.cl 150 [],.cl 150 [],.cl 160 [.p 17 0,.p 18 0]])),(13,some (.box 3 [.v (vI 0)])),(14,some (.box 3 [.v (vI 99)])),(15,some (.box 22 [.h 16 0])),(16,some (.own 16 (.l 1 eStr ([(⟨#[112,101,114,109,105,116]⟩:ByteArray),(⟨#[100,101,110,121]⟩:ByteArray)]:List ByteArray)))),(17,some (.box 3 [.v (vI 0)])),(18,some (.box 3 [.v (vI 7)])),(19,some (.arr 2 [.cl 150 [],.cl 152 []])),(20,some (.arr 3 [.cl 152 [],.cl 160 [.p 21 0,.p 22 0],.cl 160 [.p 23 0,.p 24 0]])),(21,some (.box 3 [.v (vI 1)])),(22,some (.box 3 [.v (vI 9)])),(23,some (.box 3 [.v (vI 1)])),(24,some (.box 3 [.v (vI 999999)])),(25,some (.arr 4 [.cl 150 [],.cl 152 [],.cl 160 [.p 26 0,.p 27 0],.cl 160 [.p 26 0,.p 27 0]])),(26,some (.box 3 [.v (vI 1)])),(27,some (.box 3 [.v (vI 65535)])),(28,some (.arr 4 [.cl 160 [.p 29 0,.p 30 0],.cl 160 [.p 26 0,.p 27 0],.cl 152 [],.cl 160 [.p 26 0,.p 27 0]])),(29,some (.box 3 [.v (vI 1)])),(30,some (.box 3 [.v (vI 7)]))],31⟩:St).fs) [2,3,4,5,6,7,8,9,10,11,12,13,14,15,16,17,18,19,20,21,22,23,24,25,26,27,28,29,30]=true:=rfl
 have hS:∀ id∈[2,3,4,5,6,7,8,9,10,11,12,13,14,15,16,17,18,19,20,21,22,23,24,25,26,27,28,29,30],∀ b∈φ id,b∈[2,3,4,5,6,7,8,9,10,11,12,13,14,15,16,17,18,19,20,21,22,23,24,25,26,27,28,29,30].flatMap φ:=fun id hid b hb=>List.mem_flatMap.2 ⟨id,hid,hb⟩
 have hlt:=R.flat_lt (Qdt hall)
 have e2:=Vd R (show fsG _ 2=_ from rfl)
 have e3:=Vd R (show fsG _ 3=_ from rfl)
 have e4:=Vd R (show fsG _ 4=_ from rfl)
 have e7:=Vd R (show fsG _ 7=_ from rfl)
 have e12:=Vd R (show fsG _ 12=_ from rfl)
 have e19:=Vd R (show fsG _ 19=_ from rfl)
 have e20:=Vd R (show fsG _ 20=_ from rfl)
 have e25:=Vd R (show fsG _ 25=_ from rfl)
 have e28:=Vd R (show fsG _ 28=_ from rfl)
 have he:([.v (.string (⟨#[104,111,115,116]⟩:ByteArray)),.v (vI 1),.v (sv (toSV (β 2 0))),.v (.string (⟨#[117,115,101,114]⟩:ByteArray)),.v (vI 2),.v (sv (toSV (β 3 0))),.v (.string (⟨#[112,111,114,116]⟩:ByteArray)),.v (vI 2),.v (sv (toSV (β 4 0))),.v (.string (⟨#[112,111,114,116]⟩:ByteArray)),.v (vI 2),.v (sv (toSV (β 7 0))),.v (.string (⟨#[114,117,108,101]⟩:ByteArray)),.v (vI 3),.v (sv (toSV (β 12 0))),.v (.string (⟨#[114,111,117,116,101]⟩:ByteArray)),.v (vI 3),.v (sv (toSV (β 19 0))),.v (.string (⟨#[112,101,101,114]⟩:ByteArray)),.v (vI 2),.v (sv (toSV (β 20 0))),.v (.string (⟨#[110,97,116]⟩:ByteArray)),.v (vI 1),.v (sv (toSV (β 25 0))),.v (.string (⟨#[100,111,111,114]⟩:ByteArray)),.v (vI 3),.v (sv (toSV (β 28 0)))]:List Dat)=[.v (.string (⟨#[104,111,115,116]⟩:ByteArray)),.v (vI 1),.v (β 2 0),.v (.string (⟨#[117,115,101,114]⟩:ByteArray)),.v (vI 2),.v (β 3 0),.v (.string (⟨#[112,111,114,116]⟩:ByteArray)),.v (vI 2),.v (β 4 0),.v (.string (⟨#[112,111,114,116]⟩:ByteArray)),.v (vI 2),.v (β 7 0),.v (.string (⟨#[114,117,108,101]⟩:ByteArray)),.v (vI 3),.v (β 12 0),.v (.string (⟨#[114,111,117,116,101]⟩:ByteArray)),.v (vI 3),.v (β 19 0),.v (.string (⟨#[112,101,101,114]⟩:ByteArray)),.v (vI 2),.v (β 20 0),.v (.string (⟨#[110,97,116]⟩:ByteArray)),.v (vI 1),.v (β 25 0),.v (.string (⟨#[100,111,111,114]⟩:ByteArray)),.v (vI 3),.v (β 28 0)]:=by rw [← e2,← e3,← e4,← e7,← e12,← e19,← e20,← e25,← e28]
 refine ⟨fun k=>toSV (β (([2,3,4,7,12,19,20,25,28]:List Nat).getD k 0) 0),trivial,pack3 (bx:=[.string word]) (rest:=[2,3,4,5,6,7,8,9,10,11,12,13,14,15,16,17,18,19,20,21,22,23,24,25,26,27,28,29,30]) V rfl ⟨_,rfl,rfl⟩ hall (by decide) (R.ok 2 _ rfl).1 (Uev R (show fsG _ 1=_ from rfl) rfl (by decide) (fun _=>rfl) he) (fun hnd _=>⟨⟨R.all1 2 0,?_⟩,hnd,hlt⟩)⟩
 exact ⟨RdV.at_sv e2 (Wg R (F:=Ka) (show fsG _ 2=_ from rfl) rfl (by decide) (fun _=>rfl) (hS 2 (by decide)) ⟨_,_,rfl,Yp Qqx rfl trivial hlt Qra rfl,rfl⟩),
  RdV.at_sv e3 (Wg R (F:=Ka) (show fsG _ 3=_ from rfl) rfl (by decide) (fun _=>rfl) (hS 3 (by decide)) ⟨_,_,rfl,Yp Qqx rfl trivial hlt Qra rfl,⟨_,_,rfl,Yp fh149 rfl trivial hlt ca149 rfl,rfl⟩⟩),
  RdV.at_sv e4 (Wg R (F:=Ka) (show fsG _ 4=_ from rfl) rfl (by decide) (fun _=>rfl) (hS 4 (by decide)) ⟨_,_,rfl,Wr R (Xq 0 7) (show fsG _ 5=_ from rfl) (show fsG _ 6=_ from rfl) rfl trivial (hS 5 (by decide)) (hS 6 (by decide)) hlt Vs rfl rfl rfl,⟨_,_,rfl,Yp Qek rfl trivial hlt Qcv rfl,rfl⟩⟩),
  RdV.at_sv e7 (Wg R (F:=Ka) (show fsG _ 7=_ from rfl) rfl (by decide) (fun _=>rfl) (hS 7 (by decide)) ⟨_,_,rfl,Wr R (Xq 0 7) (show fsG _ 8=_ from rfl) (show fsG _ 9=_ from rfl) rfl trivial (hS 8 (by decide)) (hS 9 (by decide)) hlt Vs rfl rfl rfl,⟨_,_,rfl,Yp Qek rfl trivial hlt Qcv rfl,⟨_,_,rfl,Ubz R (fh162 ([(⟨#[105,110]⟩:ByteArray)]:List ByteArray)) (show fsG _ 10=_ from rfl) (show fsG _ 11=_ from rfl) rfl trivial (hS 10 (by decide)) (hS 11 (by decide)) hlt ca162 rfl,⟨_,_,rfl,Yp Qqx rfl trivial hlt Qra rfl,rfl⟩⟩⟩⟩),
  RdV.at_sv e12 (Wg R (F:=Ka) (show fsG _ 12=_ from rfl) rfl (by decide) (fun _=>rfl) (hS 12 (by decide)) ⟨_,_,rfl,Yp Qqx rfl trivial hlt Qra rfl,⟨_,_,rfl,Wr R (Xq 0 99) (show fsG _ 13=_ from rfl) (show fsG _ 14=_ from rfl) rfl trivial (hS 13 (by decide)) (hS 14 (by decide)) hlt Vs rfl rfl rfl,⟨_,_,rfl,Ubz R (fh162 ([(⟨#[112,101,114,109,105,116]⟩:ByteArray),(⟨#[100,101,110,121]⟩:ByteArray)]:List ByteArray)) (show fsG _ 15=_ from rfl) (show fsG _ 16=_ from rfl) rfl trivial (hS 15 (by decide)) (hS 16 (by decide)) hlt ca162 rfl,⟨_,_,rfl,Yp Qek rfl trivial hlt Qcv rfl,⟨_,_,rfl,Yp Qek rfl trivial hlt Qcv rfl,⟨_,_,rfl,Wr R (Xq 0 7) (show fsG _ 17=_ from rfl) (show fsG _ 18=_ from rfl) rfl trivial (hS 17 (by decide)) (hS 18 (by decide)) hlt Vs rfl rfl rfl,rfl⟩⟩⟩⟩⟩⟩),
  RdV.at_sv e19 (Wg R (F:=Ka) (show fsG _ 19=_ from rfl) rfl (by decide) (fun _=>rfl) (hS 19 (by decide)) ⟨_,_,rfl,Yp Qek rfl trivial hlt Qcv rfl,⟨_,_,rfl,Yp Qod rfl trivial hlt Qpm rfl,rfl⟩⟩),
  RdV.at_sv e20 (Wg R (F:=Ka) (show fsG _ 20=_ from rfl) rfl (by decide) (fun _=>rfl) (hS 20 (by decide)) ⟨_,_,rfl,Yp Qod rfl trivial hlt Qpm rfl,⟨_,_,rfl,Wr R (Xq 1 9) (show fsG _ 21=_ from rfl) (show fsG _ 22=_ from rfl) rfl trivial (hS 21 (by decide)) (hS 22 (by decide)) hlt Vs rfl rfl rfl,⟨_,_,rfl,Wr R (Xq 1 999999) (show fsG _ 23=_ from rfl) (show fsG _ 24=_ from rfl) rfl trivial (hS 23 (by decide)) (hS 24 (by decide)) hlt Vs rfl rfl rfl,rfl⟩⟩⟩),
  RdV.at_sv e25 (Wg R (F:=Ka) (show fsG _ 25=_ from rfl) rfl (by decide) (fun _=>rfl) (hS 25 (by decide)) ⟨_,_,rfl,Yp Qek rfl trivial hlt Qcv rfl,⟨_,_,rfl,Yp Qod rfl trivial hlt Qpm rfl,⟨_,_,rfl,Wr R (Xq 1 65535) (show fsG _ 26=_ from rfl) (show fsG _ 27=_ from rfl) rfl trivial (hS 26 (by decide)) (hS 27 (by decide)) hlt Vs rfl rfl rfl,⟨_,_,rfl,Wr R (Xq 1 65535) (show fsG _ 26=_ from rfl) (show fsG _ 27=_ from rfl) rfl trivial (hS 26 (by decide)) (hS 27 (by decide)) hlt Vs rfl rfl rfl,rfl⟩⟩⟩⟩),
  RdV.at_sv e28 (Wg R (F:=Ka) (show fsG _ 28=_ from rfl) rfl (by decide) (fun _=>rfl) (hS 28 (by decide)) ⟨_,_,rfl,Wr R (Xq 1 7) (show fsG _ 29=_ from rfl) (show fsG _ 30=_ from rfl) rfl trivial (hS 29 (by decide)) (hS 30 (by decide)) hlt Vs rfl rfl rfl,⟨_,_,rfl,Wr R (Xq 1 65535) (show fsG _ 26=_ from rfl) (show fsG _ 27=_ from rfl) rfl trivial (hS 26 (by decide)) (hS 27 (by decide)) hlt Vs rfl rfl rfl,⟨_,_,rfl,Yp Qod rfl trivial hlt Qpm rfl,⟨_,_,rfl,Wr R (Xq 1 65535) (show fsG _ 26=_ from rfl) (show fsG _ 27=_ from rfl) rfl trivial (hS 26 (by decide)) (hS 27 (by decide)) hlt Vs rfl rfl rfl,rfl⟩⟩⟩⟩),trivial⟩
theorem Uen (word:ByteArray) (x:Nat→SV):Qkx Tryz.prog 45 (fun _:Unit=>(⟨[(2,some (.h 0 0)),(8,some (.h 1 0))],[(0,some (.own 0 (.l 3 Ud ((Zy x).filter (fun x=>!((fun (x0:Qq)=>F154 x0 word) x)))))),(1,some (.own 1 (.x (LX (Vh x)))))],2⟩:St)) (fun _=>True) (fun _:Unit=>(⟨[(2,some (.h 0 0))],[(0,some (.own 0 (.b (.l 3 Gs (all126.filter (fun z=>z.word.toList==word.toList))))))],2⟩:St)) (fun _=>True):=by
 intro ψ IN w0 w a i _ H
 refine ⟨(),trivial,pack1 rfl rfl rfl (fun v y f g h1 h2=>?_) H⟩
 have hx:RdAll (fun b=>b∈f++g) w (Vh x):=h2.1.2.mono fun b hb=>⟨List.mem_append_right _ hb,rfl⟩
 have hall:Rel2 (fun (y:Qq) (z:form)=>y.word=z.word∧∀ cs,RdVs (fun b=>b∈f++g) w (Ud y) cs→RdVs (fun b=>b∈f++g) w (Gs z) cs) (Zy x) all126:=⟨⟨rfl,row3 hx.1⟩,⟨rfl,row3 hx.2.1⟩,⟨rfl,row3 hx.2.2.1⟩,⟨rfl,row3 hx.2.2.2.1⟩,⟨rfl,row3 hx.2.2.2.2.1⟩,⟨rfl,row3 hx.2.2.2.2.2.1⟩,⟨rfl,row3 hx.2.2.2.2.2.2.1⟩,⟨rfl,row3 hx.2.2.2.2.2.2.2.1⟩,⟨rfl,row3 hx.2.2.2.2.2.2.2.2.1⟩,trivial⟩
 refine Qsj h1 (fun b hb=>List.mem_append_left _ hb) (Rel2.mono (fun a c h=>h.2) (Rel2.filter (fun y z h=>?_) hall))
 simp only [F154,h.1,Bool.not_not]
def F126 (word:ByteArray):List form :=
 (all126.filter (fun z=>z.word.toList==word.toList))
def S126 (word:ByteArray):Spec:=⟨[.r (.c (.v (.string word)))],.ow (.b (.l 3 Gs (F126 word))),True⟩
theorem ok126 (word:ByteArray):(S126 word).ok Tryz.prog 126 false :=
 Qi mixed (fn:=Tryz.f126) (ct:=.seq .no (.seq (.reg [(0,Vv 1 65535),(1,Vv 1 7)]) (.hnd (ι:=Unit) (κ:=(Nat→SV)) (fun _=>(⟨[(1,some (.p 0 0)),(5,some (.h 1 0)),(8,some (.h 2 0))],[(0,some (.box 9 [.v (.string word)])),(1,some (.arr 9 [.v (.string w4_),.v (vI 1),.h 2 0,.v (.string w10_),.v (vI 2),.h 3 0,.v (.string w7_),.v (vI 2),.h 4 0,.v (.string w7_),.v (vI 2),.h 7 0,.v (.string w9_),.v (vI 3),.h 12 0,.v (.string w8_),.v (vI 3),.h 19 0,.v (.string w6_),.v (vI 2),.h 20 0,.v (.string w5_),.v (vI 1),.h 25 0,.v (.string w3_),.v (vI 3),.h 28 0])),(2,some (.arr 1 [.cl 148 []])),(3,some (.arr 2 [.cl 148 [],.cl 149 []])),(4,some (.arr 2 [.cl 160 [.p 5 0,.p 6 0],.cl 150 []])),(5,some (.box 3 [.v (vI 0)])),(6,some (.box 3 [.v (vI 7)])),(7,some (.arr 4 [.cl 160 [.p 8 0,.p 9 0],.cl 150 [],.cl 162 [.p 10 0],.cl 148 []])),(8,some (.box 3 [.v (vI 0)])),(9,some (.box 3 [.v (vI 7)])),(10,some (.box 22 [.h 11 0])),(11,some (.own 11 (.l 1 eStr ([w16_]:List ByteArray)))),(12,some (.arr 6 [.cl 148 [],.cl 160 [.p 13 0,.p 14 0],.cl 162 [.p 15 0],.cl 150 [],.cl 150 [],.cl 160 [.p 17 0,.p 18 0]])),(13,some (.box 3 [.v (vI 0)])),(14,some (.box 3 [.v (vI 99)])),(15,some (.box 22 [.h 16 0])),(16,some (.own 16 (.l 1 eStr ([w17_,w18_]:List ByteArray)))),(17,some (.box 3 [.v (vI 0)])),(18,some (.box 3 [.v (vI 7)])),(19,some (.arr 2 [.cl 150 [],.cl 152 []])),(20,some (.arr 3 [.cl 152 [],.cl 160 [.p 21 0,.p 22 0],.cl 160 [.p 23 0,.p 24 0]])),(21,some (.box 3 [.v (vI 1)])),(22,some (.box 3 [.v (vI 9)])),(23,some (.box 3 [.v (vI 1)])),(24,some (.box 3 [.v (vI 999999)])),(25,some (.arr 4 [.cl 150 [],.cl 152 [],.cl 160 [.p 26 0,.p 27 0],.cl 160 [.p 26 0,.p 27 0]])),(26,some (.box 3 [.v (vI 1)])),(27,some (.box 3 [.v (vI 65535)])),(28,some (.arr 4 [.cl 160 [.p 29 0,.p 30 0],.cl 160 [.p 26 0,.p 27 0],.cl 152 [],.cl 160 [.p 26 0,.p 27 0]])),(29,some (.box 3 [.v (vI 1)])),(30,some (.box 3 [.v (vI 7)]))],31⟩:St)) (fun _=>True) (fun (x:Nat→SV)=>(⟨[(1,some (.p 0 0)),(5,some (.h 1 0)),(8,some (.h 2 0))],[(0,some (.box 9 [.v (.string word)])),(1,some (.own 1 (.l 3 Ud (Zy x)))),(2,some (.own 2 (.x (LX (Vh x)))))],31⟩:St)) (fun _=>True) (.reg [(4,Vv 0 7),(7,Vv 0 7),(8,.dat (.l 1 eStr ([w16_]:List ByteArray))),(9,Qwt ([w16_]:List ByteArray)),(12,Vv 0 99),(13,.dat (.l 1 eStr ([w17_,w18_]:List ByteArray))),(14,Qwt ([w17_,w18_]:List ByteArray)),(15,Vv 0 7),(20,Vv 1 9),(21,Vv 1 999999)]) (fun (x:Nat→SV)=>.hnd (ι:=Unit) (κ:=Unit) (fun _=>(⟨[(2,some (.h 0 0)),(8,some (.h 1 0))],[(0,some (.own 0 (.l 3 Ud ((Zy x).filter (fun x=>!((fun (x0:Qq)=>F154 x0 word) x)))))),(1,some (.own 1 (.x (LX (Vh x)))))],2⟩:St)) (fun _=>True) (fun (_:Unit)=>(⟨[(2,some (.h 0 0))],[(0,some (.own 0 (.b (.l 3 Gs (all126.filter (fun z=>z.word.toList==word.toList))))))],2⟩:St)) (fun _=>True) (.reg [(2,.call 153 (S153 ((Zy x).filter (fun x=>!((fun (x0:Qq)=>F154 x0 word) x))) (Zy x) (fun (x0:Qq)=>F154 x0 word) (fun (x0:Qq)=>True)) (oa153 (Zy x) (fun (x0:Qq)=>F154 x0 word) (fun (x0:Qq)=>True)) (some ⟨true,154,Yk (fun (x0:Qq)=>True) (fun (x0:Qq)=>F154 x0 word),[.rp ([.v (.string word)])],rfl,True,fun i=>Ubi (ok154 i word)⟩))]) (fun (_:Unit)=>.no))))) Tryz.func126 (fun (_:True)=>Ph 1 65535 (Ph 1 7 (ai (Ph 0 7 (Ph 0 7 (ai (bokr 1 eStr ([w16_]:List ByteArray) fun _=>rfl) (kc151 ([w16_]:List ByteArray) (Ph 0 99 (ai (bokr 1 eStr ([w17_,w18_]:List ByteArray) fun _=>rfl) (kc151 ([w17_,w18_]:List ByteArray) (Ph 0 7 (Ph 1 9 (Ph 1 999999 (Exists.intro (p:=fun (_:Unit)=>((.string word:Value)=.string word)∧((.string w4_:Value)=.string w4_)∧((.int .i64 1:Value)=.int .i64 1)∧((.string w10_:Value)=.string w10_)∧((.int .i64 2:Value)=.int .i64 2)∧((.string w7_:Value)=.string w7_)∧((.int .i64 2:Value)=.int .i64 2)∧((.string w7_:Value)=.string w7_)∧((.int .i64 2:Value)=.int .i64 2)∧((.string w9_:Value)=.string w9_)∧((.int .i64 3:Value)=.int .i64 3)∧((.string w8_:Value)=.string w8_)∧((.int .i64 3:Value)=.int .i64 3)∧((.string w6_:Value)=.string w6_)∧((.int .i64 2:Value)=.int .i64 2)∧((.string w5_:Value)=.string w5_)∧((.int .i64 1:Value)=.int .i64 1)∧((.string w3_:Value)=.string w3_)∧((.int .i64 3:Value)=.int .i64 3)∧((.int .i64 0:Value)=.int .i64 0)∧((.int .i64 7:Value)=.int .i64 7)∧((.int .i64 0:Value)=.int .i64 0)∧((.int .i64 7:Value)=.int .i64 7)∧(Imp (.l 1 eStr ([w16_]:List ByteArray)) (.l 1 eStr ([w16_]:List ByteArray)))∧((.int .i64 0:Value)=.int .i64 0)∧((.int .i64 99:Value)=.int .i64 99)∧(Imp (.l 1 eStr ([w17_,w18_]:List ByteArray)) (.l 1 eStr ([w17_,w18_]:List ByteArray)))∧((.int .i64 0:Value)=.int .i64 0)∧((.int .i64 7:Value)=.int .i64 7)∧((.int .i64 1:Value)=.int .i64 1)∧((.int .i64 9:Value)=.int .i64 9)∧((.int .i64 1:Value)=.int .i64 1)∧((.int .i64 999999:Value)=.int .i64 999999)∧((.int .i64 1:Value)=.int .i64 1)∧((.int .i64 65535:Value)=.int .i64 65535)∧((.int .i64 1:Value)=.int .i64 1)∧((.int .i64 7:Value)=.int .i64 7)∧True) () (ai rfl (ai rfl (ai rfl (ai rfl (ai rfl (ai rfl (ai rfl (ai rfl (ai rfl (ai rfl (ai rfl (ai rfl (ai rfl (ai rfl (ai rfl (ai rfl (ai rfl (ai rfl (ai rfl (ai rfl (ai rfl (ai rfl (ai rfl (ai ir (ai rfl (ai rfl (ai ir (ai rfl (ai rfl (ai rfl (ai rfl (ai rfl (ai rfl (ai rfl (ai rfl (ai rfl (ai rfl trivial)))))))))))))))))))))))))))))))))))))))))))))))) (ai (Ude word) (fun (x:Nat→SV) (_:True)=>ai (ai (ai (by exact (by decide:(9:Nat)≤1000000000):(Zy x).length≤1000000000) (by (intros; exact trivial):∀ k:Nat,k<(Zy x).length→(fun (x0:Qq)=>True) ((Zy x).getD k default))) (ai (Imp.refl (.l 3 Ud (Zy x))) (ai (Eq.refl (Yk (fun (x0:Qq)=>True) (fun (x0:Qq)=>F154 x0 word))) (ai trivial (ai (Imps.refl [.v (.string word)]) (Exists.intro (p:=fun (_:Unit)=>(Imp (.l 3 Ud ((Zy x).filter (fun x=>!((fun (x0:Qq)=>F154 x0 word) x)))) (.l 3 Ud ((Zy x).filter (fun x=>!((fun (x0:Qq)=>F154 x0 word) x)))))∧(Imp (.x (LX (Vh x))) (.x (LX (Vh x))))∧True) () (ai ir (ai ir trivial)))))))) (ai (Uen word x) (fun (_:Unit) (_:True)=>(fun hF:((all126.filter (fun z=>z.word.toList==word.toList)):List form)=(F126 word)=>ai (Imp.of_eq (congrArg (fun r:List form=>Dat.b (Dat.l 3 Gs r)) hF)) trivial) rfl))))))) (by kernel_rfl)
theorem g126_0 (word:ByteArray):∀ k:Nat,((F126 word).getD k default).checks.length≤6:=by
 have hall:∀ z∈all126,z.checks.length≤6:=by
  intro z hz
  simp only [all126,List.mem_cons,List.not_mem_nil,or_false] at hz
  rcases hz with rfl | rfl | rfl | rfl | rfl | rfl | rfl | rfl | rfl <;> decide
 intro k
 rw [List.getD_eq_getElem?_getD]
 cases h:(F126 word)[k]? with
 | none=>exact Nat.zero_le 6
 | some z=>exact hall z (List.mem_filter.1 (List.mem_of_getElem? h)).1
def Jn (f:form) (words:List ByteArray):Int→Lp Int Bool:=fun v17 =>
 bif (decide (v17<(f.checks.length:Int))) then (bif (!((f.checks.getD v17.toNat default) (words.getD (v17+1).toNat default))) then (.ret false) else (.next (v17+1))) else (.done v17)
def F127 (f:form) (words:List ByteArray):Bool :=
 bif ((words.length:Int) != ((f.checks.length:Int)+1)) then false else ((runL (Jn f words) (((f.checks.length:Int)-0).toNat+1) 0).fin (fun r=>r) (fun v17=>true))
abbrev Lu (f:form):Nat×Int:=((((f.checks.length:Int)-0).toNat+1),0)
abbrev Qgk (f:form) (m39:Nat) (v17:Int):Prop:=Int.toNat ((f.checks.length:Int)-v17)<m39∧(0:Int)≤v17
abbrev Qpj (f:form) (words:List ByteArray):Lp Int Bool:=LpX (Jn f words) (Lu f)
abbrev Lc (f:form) (words:List ByteArray) (i:Nat×Int):Prop:=LpJ (Jn f words) (Lu f) i (Qgk f i.1 i.2)
abbrev Qoe (f:form) (words:List ByteArray) (i:Nat×Int) (m39:Nat) (v17:Int):Prop:=LpH (Jn f words) (Lu f) i m39 v17 (Qgk f (m39+1) v17)
abbrev Qpd (f:form) (words:List ByteArray) (v17:Int) (v17_:Int) (K39:Prop):Prop:=(Rf (.int .i64 (f.checks.length:Int)))∧((.int .i64 v17:Value)=.int .i64 v17_)∧(Im (.l 1 eStr words))∧(Im (.l 1 Vq f.checks))∧K39
theorem Ucr (f:form) (words:List ByteArray) (i:Nat×Int) (h:Lc f words i):Qoe f words i (i.1-1) i.2:=⟨hd1 h.1 h.2.1,hd3 h.2.1,hd2 h.2.1,h.2.2⟩
theorem Udq (f:form) (words:List ByteArray) (i:Nat×Int) (m39:Nat) (v17:Int) (hl:m39<i.1) (e:runL (Jn f words) m39 v17=Qpj f words) (h:Qgk f m39 v17):∃ j:Nat×Int,Qpd f words v17 j.2 (Lc f words j∧j.1<i.1):=⟨(m39,v17),rfl,rfl,Imp.refl _,Imp.refl _,⟨e,h⟩,hl⟩
theorem Ucg (f:form) (words:List ByteArray) (h:(0:Int)≤0):Qpd f words 0 0 (Lc f words (Lu f)):=⟨rfl,rfl,Imp.refl _,Imp.refl _,rfl,Nat.lt_succ_self _,h⟩
def S127 (f:form) (words:List ByteArray):Spec:=⟨[.r (.g (Gs f)),.r (.c (.l 1 eStr words))],.v (.bool (F127 f words)),f.checks.length≤6∧(∀ k:Nat,(words.getD k default).size≤1048576)⟩
theorem ok127 (f:form) (words:List ByteArray):(S127 f words).ok Tryz.prog 127 false :=
 Qi mixed (fn:=Tryz.f127) (ct:=.seqk [(1,0)] .no (.seq (.seq (.reg [(5,.bnd)]) (.cond (.seq .no .no) .no)) (.seq (.seqk [(1,0),(15,0)] .no (.blk (.loop (ι:=Nat×Int) (fun i=>(fun (v17:Int)=>(⟨[(1,some (.h 0 0)),(15,some (.h 1 0)),(16,some (.v (vI (f.checks.length:Int)))),(17,some (.v (vI v17)))],[(0,some (.shr none (.l 1 eStr words))),(1,some (.shr none (.l 1 Vq f.checks)))],2⟩:St)) i.2) (Lc f words) (fun i=>i.1) (Lu f) (fun i=>(fun (v17:Int)=>(.seq .no (.seq (.cond .no .no) (.seq (.blk (.seq .no (.seq (.reg [(3,.bnd),(6,.fnv (Ka (f.checks.getD v17.toNat default)) (words.getD (v17+1).toNat default))]) (.cond (.seq .no .no) .no)))) (.reg [(0,.bnd)]))))) i.2)))) (.seq .no .no)))) Tryz.func127 (fun (hp:f.checks.length≤6∧(∀ k:Nat,(words.getD k default).size≤1048576))=>have hpre0:=hp.1; have hpre1:=hp.2; kn words fun _=>ai (iok ((f.checks.length:Int)+1) (by omega)) (ifn (words.length:Int) ((f.checks.length:Int)+1) (fun h1 _=>fiB false (F127 f words) (condT h1 rfl)) (fun h1 _=>kn words fun _=>kn f.checks fun _=>ai (Ucg f words (by omega)) (fun (i0:Nat×Int) (hi0:Lc f words i0)=>(fun (m0:Nat) (v17:Int) (hh0:Qoe f words i0 m0 v17)=>have hI0:=hh0.1; have hl0:=hh0.2.1; have _:=hh0.2.2.1; have _:=hh0.2.2.2; ifd (v17<(f.checks.length:Int)) (fun h3 _=>ai (by omega:ib v17 f.checks) (ai (iok (v17+1) (by omega)) (ai (by omega:ib (v17+1) words) (ai (Eq.refl (FnX Tryz.prog (Ka (f.checks.getD v17.toNat default)))) (ai (Imp.bx (by exact hpre1 _:(words.getD (v17+1).toNat default).size≤1048576)) (ifb (!((f.checks.getD v17.toNat default) (words.getD (v17+1).toNat default))) (fun h4=>have _:=(Jk h4); fiB false (F127 f words) (condF h1 (finR (Qr hI0 (condT h3 (condT h4 rfl))) rfl))) (fun h4=>have _:=(Yi h4); ai (iok (v17+1) (by omega)) (Udq f words i0 m0 (v17+1) hl0 (Qe hI0 (condT h3 (condF h4 rfl))) (by refine ⟨?_,?_⟩ <;> omega))))))))) (fun h3 _=>have hD0_5:Qpj f words=Lp.done v17:=Ql hI0 (condF h3 rfl); fiB true (F127 f words) (condF h1 (finD hD0_5 rfl)))) (i0.1-1) i0.2 (Ucr f words i0 hi0))))) (by kernel_rfl)
theorem kc126 (word:ByteArray) {K_:Prop} (k_:(∀ k:Nat,((F126 word).getD k default).checks.length≤6)→K_):(True)∧(Imp (.v (.string word)) (.v (.string word)))∧K_:=⟨trivial,Imp.refl _,k_ (g126_0 word)⟩
abbrev kh126 (word:ByteArray):Hint false Tryz.prog:=.call 126 (S126 word) (ok126 word) none
theorem kc127 (f:form) (words:List ByteArray) {K_:Prop} (p0_:f.checks.length≤6) (p1_:∀ k:Nat,(words.getD k default).size≤1048576) (k_:K_):(f.checks.length≤6∧(∀ k:Nat,(words.getD k default).size≤1048576))∧(Imps (Gs f) (Gs f))∧(Imp (.l 1 eStr words) (.l 1 eStr words))∧K_:=⟨⟨p0_,p1_⟩,Imps.refl _,Imp.refl _,k_⟩
abbrev kh127 (f:form) (words:List ByteArray):Hint false Tryz.prog:=.call 127 (S127 f words) (ok127 f words) none
def Jf (words:List ByteArray):Int→Lp Int (form×Bool):=fun v15 =>
 bif (decide (v15<((F126 (words.getD (Int.toNat 0) default)).length:Int))) then (bif (F127 ((F126 (words.getD (Int.toNat 0) default)).getD v15.toNat default) words) then (.ret (((F126 (words.getD (Int.toNat 0) default)).getD v15.toNat default),true)) else (.next (v15+1))) else (.done v15)
def F105 (words:List ByteArray):form×Bool :=
 bif ((words.length:Int)==0) then ((⟨(⟨#[]⟩:ByteArray),0,[]⟩:form),false) else ((runL (Jf words) ((((F126 (words.getD (Int.toNat 0) default)).length:Int)-0).toNat+1) 0).fin (fun r=>r) (fun v15=>((⟨(⟨#[]⟩:ByteArray),0,[]⟩:form),false)))
abbrev Lf (words:List ByteArray):Nat×Int:=(((((F126 (words.getD (Int.toNat 0) default)).length:Int)-0).toNat+1),0)
abbrev Qgn (words:List ByteArray) (m39:Nat) (v15:Int):Prop:=Int.toNat (((F126 (words.getD (Int.toNat 0) default)).length:Int)-v15)<m39∧(0:Int)≤v15
abbrev Qqe (words:List ByteArray):Lp Int (form×Bool):=LpX (Jf words) (Lf words)
abbrev Hu (words:List ByteArray) (i:Nat×Int):Prop:=LpJ (Jf words) (Lf words) i (Qgn words i.1 i.2)
abbrev Qnz (words:List ByteArray) (i:Nat×Int) (m39:Nat) (v15:Int):Prop:=LpH (Jf words) (Lf words) i m39 v15 (Qgn words (m39+1) v15)
abbrev Qor (words:List ByteArray) (v15:Int) (v15_:Int) (K39:Prop):Prop:=(Rf (.int .i64 ((F126 (words.getD (Int.toNat 0) default)).length:Int)))∧((.int .i64 v15:Value)=.int .i64 v15_)∧(Im (.l 1 eStr words))∧(Rf (.string w13_))∧(Rf (.int .i64 0))∧(Rf (.slice none 0 0))∧(Im (.b (.l 3 Gs (F126 (words.getD (Int.toNat 0) default)))))∧K39
theorem Ucf (words:List ByteArray) (i:Nat×Int) (h:Hu words i):Qnz words i (i.1-1) i.2:=⟨hd1 h.1 h.2.1,hd3 h.2.1,hd2 h.2.1,h.2.2⟩
theorem Ucd (words:List ByteArray) (i:Nat×Int) (m39:Nat) (v15:Int) (hl:m39<i.1) (e:runL (Jf words) m39 v15=Qqe words) (h:Qgn words m39 v15):∃ j:Nat×Int,Qor words v15 j.2 (Hu words j∧j.1<i.1):=⟨(m39,v15),rfl,rfl,Imp.refl _,rfl,rfl,rfl,Imp.refl _,⟨e,h⟩,hl⟩
theorem Uec (words:List ByteArray) (h:(0:Int)≤0):Qor words 0 0 (Hu words (Lf words)):=⟨rfl,rfl,Imp.refl _,rfl,rfl,rfl,Imp.refl _,rfl,Nat.lt_succ_self _,h⟩
def S105 (words:List ByteArray):Spec:=⟨[.r (.c (.l 1 eStr words))],.tu [.ag [.v (.string (F105 words).1.word),.v (vI (F105 words).1.key),.ow .any],.v (.bool (F105 words).2)],(∀ k:Nat,(words.getD k default).size≤1048576)⟩
theorem ok105 (words:List ByteArray):(S105 words).ok Tryz.prog 105 false :=
 Qi mixed (fn:=Tryz.f105) (ct:=.seqk [(0,0)] .no (.seq (.seq .no (.cond (.seq .no .no) .no)) (.seq (.seqk [(0,0),(13,0)] (.reg [(3,kh126 (words.getD (Int.toNat 0) default))]) (.blk (.loop (ι:=Nat×Int) (fun i=>(fun (v15:Int)=>(⟨[(0,some (.h 0 0)),(2,some (.p 1 0)),(13,some (.h 2 0)),(14,some (.v (vI ((F126 (words.getD (Int.toNat 0) default)).length:Int)))),(15,some (.v (vI v15)))],[(0,some (.shr none (.l 1 eStr words))),(1,some (.box 100 [.v (.string w13_),.v (vI 0),.v (.slice none 0 0)])),(2,some (.own 2 (.b (.l 3 Gs (F126 (words.getD (Int.toNat 0) default))))))],3⟩:St)) i.2) (Hu words) (fun i=>i.1) (Lf words) (fun i=>(fun (v15:Int)=>(.seq .no (.seq (.cond .no .no) (.seq (.blk (.seq .no (.seq (.reg [(2,kh127 ((F126 (words.getD (Int.toNat 0) default)).getD v15.toNat default) words)]) (.cond (.seq .no .no) .no)))) (.reg [(0,.bnd)]))))) i.2)))) (.seq .no .no)))) Tryz.func105 (fun (hpre0:∀ k:Nat,(words.getD k default).size≤1048576)=>kn words fun _=>ife (words.length:Int) 0 (fun h1 _=>(fun hF:((⟨w13_,0,[]⟩:form),false)=(F105 words)=>ai (congrArg (fun r:form×Bool=>(.string r.1.word:Value)) hF) (ai (congrArg (fun r:form×Bool=>(.int .i64 r.1.key:Value)) hF) (ai (congrArg (fun r:form×Bool=>(.bool r.2:Value)) hF) trivial))) (condT h1 rfl)) (fun h1 _=>ai (by omega:ib 0 words) (kc126 (words.getD (Int.toNat 0) default) (fun gv2=>kn words fun _=>kn (F126 (words.getD (Int.toNat 0) default)) fun _=>ai (Uec words (by omega)) (fun (i0:Nat×Int) (hi0:Hu words i0)=>(fun (m0:Nat) (v15:Int) (hh0:Qnz words i0 m0 v15)=>have hI0:=hh0.1; have hl0:=hh0.2.1; have _:=hh0.2.2.1; have _:=hh0.2.2.2; ifd (v15<((F126 (words.getD (Int.toNat 0) default)).length:Int)) (fun h4 _=>ai (by omega:ib v15 (F126 (words.getD (Int.toNat 0) default))) (kc127 ((F126 (words.getD (Int.toNat 0) default)).getD v15.toNat default) words (by exact gv2 _) (by assumption) (ifb (F127 ((F126 (words.getD (Int.toNat 0) default)).getD v15.toNat default) words) (fun h5=>(fun hF:(((F126 (words.getD (Int.toNat 0) default)).getD v15.toNat default),true)=(F105 words)=>ai (congrArg (fun r:form×Bool=>(.string r.1.word:Value)) hF) (ai (congrArg (fun r:form×Bool=>(.int .i64 r.1.key:Value)) hF) (ai (congrArg (fun r:form×Bool=>(.bool r.2:Value)) hF) trivial))) (condF h1 (finR (Qr hI0 (condT h4 (condT h5 rfl))) rfl))) (fun h5=>ai (iok (v15+1) (by omega)) (Ucd words i0 m0 (v15+1) hl0 (Qe hI0 (condT h4 (condF h5 rfl))) (by refine ⟨?_,?_⟩ <;> omega)))))) (fun h4 _=>have hD0_6:Qqe words=Lp.done v15:=Ql hI0 (condF h4 rfl); (fun hF:((⟨w13_,0,[]⟩:form),false)=(F105 words)=>ai (congrArg (fun r:form×Bool=>(.string r.1.word:Value)) hF) (ai (congrArg (fun r:form×Bool=>(.int .i64 r.1.key:Value)) hF) (ai (congrArg (fun r:form×Bool=>(.bool r.2:Value)) hF) trivial))) (condF h1 (finD hD0_6 rfl)))) (i0.1-1) i0.2 (Ucf words i0 hi0)))))) (by kernel_rfl)
theorem Qdi {α ρ τ:Type} [Inhabited α] (xs:List α) (p:α→Bool) (g:α→ρ) (st:Int→Lp Int ρ) (f:ρ→τ) (k:Int→τ) (y:τ) (hk:∀ i,k i=y)
  (h1:∀ i:Nat,i<xs.length→st (i:Int)=bif p (xs.getD i default) then .ret (g (xs.getD i default)) else .next ((i+1:Nat):Int)) (h2:st (xs.length:Int)=.done (xs.length:Int)) :
  ∀ (m i:Nat),i+m=xs.length→∀ fuel,m<fuel→(runL st fuel (i:Int)).fin f k=match (xs.drop i).find? p with | some a=>f (g a) | none=>y
 | m,i,_,0,hf=>absurd hf (Nat.not_lt_zero _)
 | 0,i,h,fuel+1,hf=>by
  have e:i=xs.length:=by omega
  subst e
  rw [Km _ h2,List.drop_of_length_le (Nat.le_refl _)]
  exact hk _
 | m+1,i,h,fuel+1,hf=>by
  have hst:=h1 i (by omega)
  have hd:xs.drop i=xs.getD i default :: xs.drop (i+1):=by
   rw [List.drop_eq_getElem_cons (show i<xs.length by omega),List.getD_eq_getElem?_getD,List.getElem?_eq_getElem (show i<xs.length by omega)]; rfl
  rw [hd,List.find?_cons]
  cases hp:p (xs.getD i default) with
  | true=>rw [hp,cond_true] at hst; rw [Zj _ hst]; rfl
  | false =>
   rw [hp,cond_false] at hst
   rw [Ya _ hst,Qdi xs p g st f k y hk h1 h2 m (i+1) (by omega) fuel (by omega)]
def chk:List (ByteArray→Bool)→Nat→List ByteArray→Bool
 | [],_,_=>true
 | c :: cs,i,w=>c (w.getD i default)&&chk cs (i+1) w
theorem Qhp (cs:List (ByteArray→Bool)) (w:List ByteArray):∀ (m i:Nat),i+m=cs.length→anyF (fun k=>!(cs.getD k default) (w.getD (k+1) default)) i m=!chk (cs.drop i) (i+1) w
 | 0,i,h=>by rw [List.drop_of_length_le (by omega)]; rfl
 | m+1,i,h=>by
  have hd:cs.drop i=cs.getD i default :: cs.drop (i+1):=by
   rw [List.drop_eq_getElem_cons (show i<cs.length by omega),List.getD_eq_getElem?_getD,List.getElem?_eq_getElem (show i<cs.length by omega)]; rfl
  rw [hd]
  simp only [anyF,chk,Bool.not_and]
  rw [Qhp cs w m (i+1) (by omega)]
theorem Wh (f:form) (w:List ByteArray):F127 f w=(decide (w.length=f.checks.length+1)&&chk f.checks 1 w):=by
 unfold F127
 by_cases h:w.length=f.checks.length+1
 ·have h1:((w.length:Int) != ((f.checks.length:Int)+1))=false:=by
   rw [bne_eq_false_iff_eq]; omega
  rw [h1,cond_false,decide_eq_true h,Bool.true_and]
  have:=Yu (Jn f w) f.checks.length (fun k=>!(f.checks.getD k default) (w.getD (k+1) default)) false (fun r=>r) true (fun i hi=>by
   simp only [Jn,decide_eq_true (show (i:Int)<(f.checks.length:Int) by omega),cond_true,Int.toNat_natCast]
   rw [show ((i:Int)+1).toNat=i+1 by omega]
   cases (!(f.checks.getD i default) (w.getD (i+1) default)) <;> rfl) (by
   simp only [Jn,decide_eq_false (show ¬ (f.checks.length:Int)<(f.checks.length:Int) by omega),cond_false])
  have h2:=this f.checks.length 0 (by omega) (Int.toNat ((f.checks.length:Int)-0)+1) (by omega)
  rw [Qhp f.checks w f.checks.length 0 (by omega),List.drop_zero] at h2
  refine h2.trans ?_
  cases chk f.checks (0+1) w <;> rfl
 ·have h1:((w.length:Int) != ((f.checks.length:Int)+1))=true:=by
   rw [bne_iff_ne]; omega
  rw [h1,cond_true,decide_eq_false h,Bool.false_and]
theorem Nu (w:List ByteArray) (hw:w.length≠0):F105 w=match (F126 (w.getD 0 default)).find? (fun f=>F127 f w) with | some f=>(f,true) | none=>((⟨(⟨#[]⟩:ByteArray),0,[]⟩:form),false):=by
 unfold F105
 have h1:((w.length:Int)==0)=false:=by rw [beq_eq_false_iff_ne]; omega
 rw [h1,cond_false]
 have h0:w.getD (Int.toNat 0) default=w.getD 0 default:=rfl
 simp only [h0]
 generalize hx:F126 (w.getD 0 default)=xs
 have:=Qdi xs (fun f=>F127 f w) (fun f=>(f,true)) (Jf w) (fun r=>r) (fun _=>((⟨(⟨#[]⟩:ByteArray),0,[]⟩:form),false)) _ (fun _=>rfl) (fun i hi=>by
  simp only [Jf,h0,hx,decide_eq_true (show (i:Int)<(xs.length:Int) by omega),cond_true,Int.toNat_natCast]
  cases F127 (xs.getD i default) w <;> rfl) (by
  simp only [Jf,h0,hx,decide_eq_false (show ¬ (xs.length:Int)<(xs.length:Int) by omega),cond_false]) xs.length 0 (by omega) (Int.toNat ((xs.length:Int)-0)+1) (by omega)
 rw [List.drop_zero] at this
 refine Eq.trans this ?_
 cases xs.find? (fun f=>F127 f w) <;> rfl
theorem Zx (l:List UInt8) (x:ByteArray) (h:x.data.toList=l):F126 x=all126.filter (fun z=>z.word.data.toList==l):=by
 unfold F126
 congr 1
 funext z
 rw [Ua,Ua,h]
def keyN (l:List UInt8):Int :=
 if l=[104,111,115,116] then 1 else if l=[117,115,101,114] then 2 else if l=[112,111,114,116] then 2 else if l=[114,117,108,101] then 3 else if l=[114,111,117,116,101] then 3 else if l=[112,101,101,114] then 2 else if l=[110,97,116] then 1 else 3
theorem Ku (x a:ByteArray):F162 x [a]=(x.toList==a.toList):=by
 unfold F162
 rw [Hc,List.any_cons,List.any_nil,Bool.or_false]
theorem Zo (x a b:ByteArray):F162 x [a,b]=bif (x.toList==a.toList) then true else (x.toList==b.toList):=by
 unfold F162
 rw [Hc,List.any_cons,List.any_cons,List.any_nil,Bool.or_false]
 cases (x.toList==a.toList) <;> rfl
theorem Kv (x:ByteArray) (lo hi:Int):F160 x lo hi=decide (lo≤F30 x∧F30 x≤hi):=by
 unfold F160
 rw [Pg]
theorem Kq (w:List ByteArray) (n:Nat):((w.length:Int)==(n:Int))=decide (w.length=n):=by
 by_cases h:w.length=n
 ·rw [decide_eq_true h,beq_iff_eq]; omega
 ·rw [decide_eq_false h,beq_eq_false_iff_ne]; omega
theorem Wv (w:List ByteArray) (f:form) (hw:w.length≠0) (h:F126 (w.getD 0 default)=[f]):(F105 w).2=F127 f w∧((F105 w).2=true→(F105 w).1.key=f.key):=by
 rw [Nu w hw,h,List.find?_cons,List.find?_nil]
 cases F127 f w <;> exact ⟨rfl,fun h=>by first | rfl | cases h⟩
theorem Qta (w:List ByteArray) (f g:form) (hw:w.length≠0) (h:F126 (w.getD 0 default)=[f,g]) (hk:f.key=g.key):(F105 w).2=(F127 f w || F127 g w)∧((F105 w).2=true→(F105 w).1.key=f.key):=by
 rw [Nu w hw,h,List.find?_cons,List.find?_cons,List.find?_nil]
 cases F127 f w <;> cases F127 g w <;> exact ⟨rfl,fun h=>by first | rfl | exact hk.symm | cases h⟩
theorem Qrl (w:List ByteArray) (hw:w.length≠0) (h:F126 (w.getD 0 default)=[]):(F105 w).2=false:=by
 rw [Nu w hw,h]; rfl
theorem blit (x:ByteArray) (a:Array UInt8):(x.toList==(⟨a⟩:ByteArray).toList)=(x.data.toList==a.toList):=by rw [Ua,Ua]
theorem hd00:(([104,111,115,116]:List UInt8)==([104,111,115,116]:List UInt8))=true:=by decide
theorem hd10:(([117,115,101,114]:List UInt8)==([104,111,115,116]:List UInt8))=false:=by decide
theorem hd11:(([117,115,101,114]:List UInt8)==([117,115,101,114]:List UInt8))=true:=by decide
theorem hd20:(([112,111,114,116]:List UInt8)==([104,111,115,116]:List UInt8))=false:=by decide
theorem hd21:(([112,111,114,116]:List UInt8)==([117,115,101,114]:List UInt8))=false:=by decide
theorem hd22:(([112,111,114,116]:List UInt8)==([112,111,114,116]:List UInt8))=true:=by decide
theorem hd30:(([114,117,108,101]:List UInt8)==([104,111,115,116]:List UInt8))=false:=by decide
theorem hd31:(([114,117,108,101]:List UInt8)==([117,115,101,114]:List UInt8))=false:=by decide
theorem hd32:(([114,117,108,101]:List UInt8)==([112,111,114,116]:List UInt8))=false:=by decide
theorem hd33:(([114,117,108,101]:List UInt8)==([114,117,108,101]:List UInt8))=true:=by decide
theorem hd40:(([114,111,117,116,101]:List UInt8)==([104,111,115,116]:List UInt8))=false:=by decide
theorem hd41:(([114,111,117,116,101]:List UInt8)==([117,115,101,114]:List UInt8))=false:=by decide
theorem hd42:(([114,111,117,116,101]:List UInt8)==([112,111,114,116]:List UInt8))=false:=by decide
theorem hd43:(([114,111,117,116,101]:List UInt8)==([114,117,108,101]:List UInt8))=false:=by decide
theorem hd44:(([114,111,117,116,101]:List UInt8)==([114,111,117,116,101]:List UInt8))=true:=by decide
theorem hd50:(([112,101,101,114]:List UInt8)==([104,111,115,116]:List UInt8))=false:=by decide
theorem hd51:(([112,101,101,114]:List UInt8)==([117,115,101,114]:List UInt8))=false:=by decide
theorem hd52:(([112,101,101,114]:List UInt8)==([112,111,114,116]:List UInt8))=false:=by decide
theorem hd53:(([112,101,101,114]:List UInt8)==([114,117,108,101]:List UInt8))=false:=by decide
theorem hd54:(([112,101,101,114]:List UInt8)==([114,111,117,116,101]:List UInt8))=false:=by decide
theorem hd55:(([112,101,101,114]:List UInt8)==([112,101,101,114]:List UInt8))=true:=by decide
theorem hd60:(([110,97,116]:List UInt8)==([104,111,115,116]:List UInt8))=false:=by decide
theorem hd61:(([110,97,116]:List UInt8)==([117,115,101,114]:List UInt8))=false:=by decide
theorem hd62:(([110,97,116]:List UInt8)==([112,111,114,116]:List UInt8))=false:=by decide
theorem hd63:(([110,97,116]:List UInt8)==([114,117,108,101]:List UInt8))=false:=by decide
theorem hd64:(([110,97,116]:List UInt8)==([114,111,117,116,101]:List UInt8))=false:=by decide
theorem hd65:(([110,97,116]:List UInt8)==([112,101,101,114]:List UInt8))=false:=by decide
theorem hd66:(([110,97,116]:List UInt8)==([110,97,116]:List UInt8))=true:=by decide
theorem hd70:(([100,111,111,114]:List UInt8)==([104,111,115,116]:List UInt8))=false:=by decide
theorem hd71:(([100,111,111,114]:List UInt8)==([117,115,101,114]:List UInt8))=false:=by decide
theorem hd72:(([100,111,111,114]:List UInt8)==([112,111,114,116]:List UInt8))=false:=by decide
theorem hd73:(([100,111,111,114]:List UInt8)==([114,117,108,101]:List UInt8))=false:=by decide
theorem hd74:(([100,111,111,114]:List UInt8)==([114,111,117,116,101]:List UInt8))=false:=by decide
theorem hd75:(([100,111,111,114]:List UInt8)==([112,101,101,114]:List UInt8))=false:=by decide
theorem hd76:(([100,111,111,114]:List UInt8)==([110,97,116]:List UInt8))=false:=by decide
theorem hd77:(([100,111,111,114]:List UInt8)==([100,111,111,114]:List UInt8))=true:=by decide
theorem cb1 (a b:Bool):(bif a then b else false)=(a&&b):=by cases a <;> rfl
theorem cb2 (a b:Bool):(bif a then true else b)=(a || b):=by cases a <;> rfl
theorem Qdq (w:List ByteArray):(F105 w).2=F123 w∧((F105 w).2=true→(F105 w).1.key=keyN (w.getD 0 default).data.toList):=by
 by_cases hw:w.length=0
 ·obtain rfl:=List.eq_nil_of_length_eq_zero hw
  exact ⟨rfl,fun h=>by cases h⟩
 have h0:((w.length:Int)==0)=false:=by rw [beq_eq_false_iff_ne]; omega
 have t0:∀ k:Nat,w.getD (k:Int).toNat default=w.getD k default:=fun _=>rfl
 have e0:w.getD (Int.toNat 0) default=w.getD 0 default:=rfl
 have e1:w.getD (Int.toNat 1) default=w.getD 1 default:=rfl
 have e2:w.getD (Int.toNat 2) default=w.getD 2 default:=rfl
 have e3:w.getD (Int.toNat 3) default=w.getD 3 default:=rfl
 have e4:w.getD (Int.toNat 4) default=w.getD 4 default:=rfl
 have e5:w.getD (Int.toNat 5) default=w.getD 5 default:=rfl
 have e6:w.getD (Int.toNat 6) default=w.getD 6 default:=rfl
 have n2:=Kq w 2
 have n3:=Kq w 3
 have n4:=Kq w 4
 have n5:=Kq w 5
 have n7:=Kq w 7
 simp only [Int.cast_ofNat_Int] at n2 n3 n4 n5 n7
 have hb:∀ l:List UInt8,(w.getD 0 default).data.toList=l→(w.getD 0 default).toList=l:=fun l h=>by rw [Ua,h]
 have hlit:∀ l:List UInt8,(⟨l.toArray⟩:ByteArray).toList=l:=fun l=>by rw [Ua]
 unfold F123
 simp only [h0,cond_false,e0,e1,e2,e3,e4,e5,e6,n2,n3,n4,n5,n7]
 rcases Classical.em ((w.getD 0 default).data.toList=[104,111,115,116]) with h | hn0
 ·have hF:=(Zx _ _ h).trans (show _=[all126.getD 0 default] from rfl)
  have f0:F127 (all126.getD 0 default) w=(decide (w.length=2)&&(F148 (w.getD 1 default)&&true)):=Wh _ _
  obtain ⟨k1,k2⟩:=Wv w _ hw hF
  refine ⟨?_,fun hh=>(k2 hh).trans (by rw [h]; rfl)⟩
  rw [k1,f0]
  simp only [blit,h,hd00,cond_true,cond_false,Zp,Ux,Uw,Yn,Kv,Ku,Zo,cb1,cb2,Bool.and_true,Bool.and_assoc]
 rcases Classical.em ((w.getD 0 default).data.toList=[117,115,101,114]) with h | hn1
 ·have hF:=(Zx _ _ h).trans (show _=[all126.getD 1 default] from rfl)
  have f0:F127 (all126.getD 1 default) w=(decide (w.length=3)&&(F148 (w.getD 1 default)&&(F149 (w.getD 2 default)&&true))):=Wh _ _
  obtain ⟨k1,k2⟩:=Wv w _ hw hF
  refine ⟨?_,fun hh=>(k2 hh).trans (by rw [h]; rfl)⟩
  rw [k1,f0]
  simp only [blit,h,hd10,hd11,cond_true,cond_false,Zp,Ux,Uw,Yn,Kv,Ku,Zo,cb1,cb2,Bool.and_true,Bool.and_assoc]
 rcases Classical.em ((w.getD 0 default).data.toList=[112,111,114,116]) with h | hn2
 ·have hF:=(Zx _ _ h).trans (show _=[all126.getD 2 default,all126.getD 3 default] from rfl)
  have f0:F127 (all126.getD 2 default) w=(decide (w.length=3)&&(F160 (w.getD 1 default) 0 7&&(F150 (w.getD 2 default)&&true))):=Wh _ _
  have f1:F127 (all126.getD 3 default) w=(decide (w.length=5)&&(F160 (w.getD 1 default) 0 7&&(F150 (w.getD 2 default)&&(F162 (w.getD 3 default) [(⟨#[105,110]⟩:ByteArray)]&&(F148 (w.getD 4 default)&&true))))):=Wh _ _
  obtain ⟨k1,k2⟩:=Qta w _ _ hw hF rfl
  refine ⟨?_,fun hh=>(k2 hh).trans (by rw [h]; rfl)⟩
  rw [k1,f0,f1]
  simp only [blit,h,hd20,hd21,hd22,cond_true,cond_false,Zp,Ux,Uw,Yn,Kv,Ku,Zo,cb1,cb2,Bool.and_true,Bool.and_assoc]
  generalize decide (w.length=3)=a,decide (w.length=5)=b,decide (0≤F30 (w.getD 1 default)∧F30 (w.getD 1 default)≤7)=c,F143 (w.getD 2 default)=d,((w.getD 3 default).data.toList==[105,110])=e,F141 (w.getD 4 default)=g
  cases a <;> cases b <;> cases c <;> cases d <;> cases e <;> cases g <;> rfl
 rcases Classical.em ((w.getD 0 default).data.toList=[114,117,108,101]) with h | hn3
 ·have hF:=(Zx _ _ h).trans (show _=[all126.getD 4 default] from rfl)
  have f0:F127 (all126.getD 4 default) w=(decide (w.length=7)&&(F148 (w.getD 1 default)&&(F160 (w.getD 2 default) 0 99&&(F162 (w.getD 3 default) [(⟨#[112,101,114,109,105,116]⟩:ByteArray),(⟨#[100,101,110,121]⟩:ByteArray)]&&(F150 (w.getD 4 default)&&(F150 (w.getD 5 default)&&(F160 (w.getD 6 default) 0 7&&true))))))):=Wh _ _
  obtain ⟨k1,k2⟩:=Wv w _ hw hF
  refine ⟨?_,fun hh=>(k2 hh).trans (by rw [h]; rfl)⟩
  rw [k1,f0]
  simp only [blit,h,hd30,hd31,hd32,hd33,cond_true,cond_false,Zp,Ux,Uw,Yn,Kv,Ku,Zo,cb1,cb2,Bool.and_true,Bool.and_assoc]
 rcases Classical.em ((w.getD 0 default).data.toList=[114,111,117,116,101]) with h | hn4
 ·have hF:=(Zx _ _ h).trans (show _=[all126.getD 5 default] from rfl)
  have f0:F127 (all126.getD 5 default) w=(decide (w.length=3)&&(F150 (w.getD 1 default)&&(F152 (w.getD 2 default)&&true))):=Wh _ _
  obtain ⟨k1,k2⟩:=Wv w _ hw hF
  refine ⟨?_,fun hh=>(k2 hh).trans (by rw [h]; rfl)⟩
  rw [k1,f0]
  simp only [blit,h,hd40,hd41,hd42,hd43,hd44,cond_true,cond_false,Zp,Ux,Uw,Yn,Kv,Ku,Zo,cb1,cb2,Bool.and_true,Bool.and_assoc]
 rcases Classical.em ((w.getD 0 default).data.toList=[112,101,101,114]) with h | hn5
 ·have hF:=(Zx _ _ h).trans (show _=[all126.getD 6 default] from rfl)
  have f0:F127 (all126.getD 6 default) w=(decide (w.length=4)&&(F152 (w.getD 1 default)&&(F160 (w.getD 2 default) 1 9&&(F160 (w.getD 3 default) 1 999999&&true)))):=Wh _ _
  obtain ⟨k1,k2⟩:=Wv w _ hw hF
  refine ⟨?_,fun hh=>(k2 hh).trans (by rw [h]; rfl)⟩
  rw [k1,f0]
  simp only [blit,h,hd50,hd51,hd52,hd53,hd54,hd55,cond_true,cond_false,Zp,Ux,Uw,Yn,Kv,Ku,Zo,cb1,cb2,Bool.and_true,Bool.and_assoc]
 rcases Classical.em ((w.getD 0 default).data.toList=[110,97,116]) with h | hn6
 ·have hF:=(Zx _ _ h).trans (show _=[all126.getD 7 default] from rfl)
  have f0:F127 (all126.getD 7 default) w=(decide (w.length=5)&&(F150 (w.getD 1 default)&&(F152 (w.getD 2 default)&&(F160 (w.getD 3 default) 1 65535&&(F160 (w.getD 4 default) 1 65535&&true))))):=Wh _ _
  obtain ⟨k1,k2⟩:=Wv w _ hw hF
  refine ⟨?_,fun hh=>(k2 hh).trans (by rw [h]; rfl)⟩
  rw [k1,f0]
  simp only [blit,h,hd60,hd61,hd62,hd63,hd64,hd65,hd66,cond_true,cond_false,Zp,Ux,Uw,Yn,Kv,Ku,Zo,cb1,cb2,Bool.and_true,Bool.and_assoc]
 rcases Classical.em ((w.getD 0 default).data.toList=[100,111,111,114]) with h | hn7
 ·have hF:=(Zx _ _ h).trans (show _=[all126.getD 8 default] from rfl)
  have f0:F127 (all126.getD 8 default) w=(decide (w.length=5)&&(F160 (w.getD 1 default) 1 7&&(F160 (w.getD 2 default) 1 65535&&(F152 (w.getD 3 default)&&(F160 (w.getD 4 default) 1 65535&&true))))):=Wh _ _
  obtain ⟨k1,k2⟩:=Wv w _ hw hF
  refine ⟨?_,fun hh=>(k2 hh).trans (by rw [h]; rfl)⟩
  rw [k1,f0]
  simp only [blit,h,hd70,hd71,hd72,hd73,hd74,hd75,hd76,hd77,cond_true,cond_false,Zp,Ux,Uw,Yn,Kv,Ku,Zo,cb1,cb2,Bool.and_true,Bool.and_assoc]
 have hF:F126 (w.getD 0 default)=[]:=by
  rw [Zx _ _ rfl,List.filter_eq_nil_iff]
  intro z hz
  simp only [all126,List.mem_cons,List.not_mem_nil,or_false] at hz
  rcases hz with rfl | rfl | rfl | rfl | rfl | rfl | rfl | rfl | rfl
  ·exact fun e=>hn0 (eq_of_beq e).symm
  ·exact fun e=>hn1 (eq_of_beq e).symm
  ·exact fun e=>hn2 (eq_of_beq e).symm
  ·exact fun e=>hn2 (eq_of_beq e).symm
  ·exact fun e=>hn3 (eq_of_beq e).symm
  ·exact fun e=>hn4 (eq_of_beq e).symm
  ·exact fun e=>hn5 (eq_of_beq e).symm
  ·exact fun e=>hn6 (eq_of_beq e).symm
  ·exact fun e=>hn7 (eq_of_beq e).symm
 rw [Qrl w hw hF]
 refine ⟨?_,fun h=>by cases h⟩
 simp only [blit,beq_eq_false_iff_ne.2 hn0,beq_eq_false_iff_ne.2 hn1,beq_eq_false_iff_ne.2 hn2,beq_eq_false_iff_ne.2 hn3,beq_eq_false_iff_ne.2 hn4,beq_eq_false_iff_ne.2 hn5,beq_eq_false_iff_ne.2 hn6,beq_eq_false_iff_ne.2 hn7,cond_false]
theorem Qnw (l:List UInt8) (k:Nat):((Jh l).1.getD k default).size≤24:=by
 unfold Jh fitW
 rw [List.getD_eq_getElem?_getD]
 cases h:((l.all okB)&&(decide ((Ug l).length≤8)&&(Ug l).all fun w=>decide (w.length≤24))) with
 | false=>rw [cond_false]; exact Nat.zero_le _
 | true =>
  rw [cond_true]
  simp only [Bool.and_eq_true] at h
  have h2:=List.all_eq_true.1 h.2.2
  show ((((Ug l).map mkB)[k]?).getD default).size≤24
  rw [List.getElem?_map]
  cases hk:(Ug l)[k]? with
  | none=>exact Nat.zero_le _
  | some w=>exact of_decide_eq_true (h2 w (List.mem_of_getElem? hk))
theorem Qkp (line:ByteArray) (k:Nat):((F125 line).1.getD k default).size≤24:=by
 rw [Hg]; exact Qnw _ k
theorem Qis (line:ByteArray):∀ k:Nat,((F125 line).1.getD k default).size≤1048576:=fun k=>Nat.le_trans (Qkp line k) (by decide)
theorem Gt (line:ByteArray):(F40 line).1.length≤8:=by rw [← Hb]; exact Qeo line
theorem Qd (line:ByteArray):∀ k:Nat,((F40 line).1.getD k default).size≤1048576:=by rw [← Hb]; exact Qis line
theorem Ma (sep:List UInt8) (m:Nat):∀ xs:List (List UInt8),(∀ x∈xs,x.length≤m)→(Lib.joinTail sep xs).length≤xs.length*(m+sep.length)
 | [],_=>by simp [Lib.joinTail]
 | x :: xs,h=>by
  have h1:=Ma sep m xs fun y hy=>h y (List.mem_cons_of_mem _ hy)
  have h2:=h x List.mem_cons_self
  have e:Lib.joinTail sep (x :: xs)=(sep++x)++Lib.joinTail sep xs:=rfl
  rw [e]
  simp only [List.length_append,List.length_cons,Nat.succ_mul]
  omega
theorem Uda (ws:List ByteArray) (sep:ByteArray) (m:Nat) (h:∀ k:Nat,(ws.getD k default).size≤m):(Ys ws sep).size≤ws.length*(m+sep.size):=by
 have hx:∀ x∈ws.map (·.data.toList),x.length≤m:=by
  intro x hx
  obtain ⟨w,hw,rfl⟩:=List.mem_map.1 hx
  obtain ⟨k,hk⟩:=List.mem_iff_getElem?.1 hw
  have:=h k
  rw [List.getD_eq_getElem?_getD,hk] at this
  exact this
 have e:(Ys ws sep).size=(Lib.join (ws.map (·.data.toList)) sep.data.toList).length:=by simp [Ys,ByteArray.size]
 have es:sep.data.toList.length=sep.size:=rfl
 rw [e]
 cases ws with
 | nil=>simp [Lib.join]
 | cons a t =>
  rw [List.map_cons,Lib.join_cons,List.length_append,List.length_cons,Nat.succ_mul]
  have h1:=Ma sep.data.toList m (t.map (·.data.toList)) fun y hy=>hx y (by rw [List.map_cons]; exact List.mem_cons_of_mem _ hy)
  have h2:=hx a.data.toList (by rw [List.map_cons]; exact List.mem_cons_self)
  rw [List.length_map,es] at h1
  omega
theorem Hp (ws:List ByteArray) (sep:ByteArray) (h:∀ k:Nat,(ws.getD k default).size≤1048576) (hl:ws.length≤8) (hs:sep.size≤1):(Ys ws sep).size≤140737488355328:=by
 have h1:=Uda ws sep 1048576 h
 have h2:=Nat.mul_le_mul hl (show 1048576+sep.size≤1048577 by omega)
 omega
def F106 (elems:List ByteArray) (sep:ByteArray):ByteArray :=
 Ys elems sep
def S106 (elems:List ByteArray) (sep:ByteArray):Spec:=⟨[.r (.c (.l 1 eStr elems)),.r (.c (.v (.string sep)))],.v (.string (F106 elems sep)),elems.length≤140737488355328∧(Ys elems sep).size≤140737488355328⟩
theorem ok106 (elems:List ByteArray) (sep:ByteArray):(S106 elems sep).ok Tryz.prog 106 false :=
 Ucm Ufe Qwq elems sep
theorem kc125 (line:ByteArray) {K_:Prop} (p0_:line.size≤1048576) (k_:((F125 line).1.length≤8)→(∀ k:Nat,((F125 line).1.getD k default).size≤1048576)→K_):(line.size≤1048576)∧(Imp (.v (.string line)) (.v (.string line)))∧K_:=⟨p0_,Imp.refl _,k_ (Qeo line) (Qis line)⟩
abbrev kh125 (line:ByteArray):Hint false Tryz.prog:=.call 125 (S125 line) (ok125 line) none
theorem kc105 (words:List ByteArray) {K_:Prop} (p0_:∀ k:Nat,(words.getD k default).size≤1048576) (k_:K_):(∀ k:Nat,(words.getD k default).size≤1048576)∧(Imp (.l 1 eStr words) (.l 1 eStr words))∧K_:=⟨p0_,Imp.refl _,k_⟩
abbrev kh105 (words:List ByteArray):Hint false Tryz.prog:=.call 105 (S105 words) (ok105 words) none
theorem kc106 (elems:List ByteArray) (sep:ByteArray) {K_:Prop} (p0_:elems.length≤140737488355328) (p1_:(Ys elems sep).size≤140737488355328) (k_:K_):(elems.length≤140737488355328∧(Ys elems sep).size≤140737488355328)∧(Imp (.l 1 eStr elems) (.l 1 eStr elems))∧(Imp (.v (.string sep)) (.v (.string sep)))∧K_:=⟨⟨p0_,p1_⟩,Imp.refl _,Imp.refl _,k_⟩
abbrev kh106 (elems:List ByteArray) (sep:ByteArray):Hint false Tryz.prog:=.call 106 (S106 elems sep) (ok106 elems sep) none
def F104 (line:ByteArray):ByteArray×Bool :=
 bif (!(F125 line).2) then ((⟨#[]⟩:ByteArray),false) else (bif (!(F105 (F125 line).1).2) then ((⟨#[]⟩:ByteArray),false) else ((F106 (F125 line).1 ⟨#[32]⟩),true))
theorem Ubq (line:ByteArray) (r:ByteArray×Bool) (hF:r=(F104 line)):((.string r.1:Value)=.string (F104 line).1)∧((.bool r.2:Value)=.bool (F104 line).2)∧True:=by cases hF; exact ⟨rfl,rfl,trivial⟩
def S104 (line:ByteArray):Spec:=⟨[.r (.c (.v (.string line)))],.tu [.v (.string (F104 line).1),.v (.bool (F104 line).2)],line.size≤1048576⟩
theorem ok104 (line:ByteArray):(S104 line).ok Tryz.prog 104 false :=
 Qi mixed (fn:=Tryz.f104) (ct:=.seq .no (.seq (.reg [(1,kh125 line)]) (.seq (.seq .no (.cond (.seq .no .no) .no)) (.seq (.seq (.reg [(1,kh105 (F125 line).1)]) (.seq .no (.cond (.seq .no .no) .no))) (.seq (.reg [(1,kh106 (F125 line).1 w15_)]) .no))))) Tryz.func104 (fun (hpre0:line.size≤1048576)=>kc125 line (by omega) (fun gv1 gv2=>ifb (!(F125 line).2) (fun h3=>have _:=(Jk h3); Ubq line (w13_,false) (condT h3 rfl)) (fun h3=>have _:=(Yi h3); kc105 (F125 line).1 (by first | assumption | exact gv2 | (intros; exact trivial) | (intros; exact Nat.zero_le _)) (ifb (!(F105 (F125 line).1).2) (fun h4=>have _:=(Jk h4); Ubq line (w13_,false) (condF h3 (condT h4 rfl))) (fun h4=>have _:=(Yi h4); kc106 (F125 line).1 w15_ (by first | omega | exact Hp _ _ (by assumption) (by omega) (by decide)) (by first | omega | exact Hp _ _ (by assumption) (by omega) (by decide)) (Ubq line ((F106 (F125 line).1 w15_),true) (condF h3 (condF h4 rfl)))))))) (by kernel_rfl)
theorem kc40 (line:ByteArray) {K_:Prop} (p0_:line.size≤1048576) (k_:((F40 line).1.length≤8)→(∀ k:Nat,((F40 line).1.getD k default).size≤1048576)→K_):(line.size≤1048576)∧(Imp (.v (.string line)) (.v (.string line)))∧K_:=⟨p0_,Imp.refl _,k_ (Gt line) (Qd line)⟩
abbrev kh40 (line:ByteArray):Hint true Tryz.prog:=.call 40 (S40 line) (ok40 line) none
theorem kg123 {K_:Prop} (c_ b_:Bool) (w1:List ByteArray) (p_:c_=b_→(∀ k:Nat,(w1.getD k default).size≤1048576)) (k_:K_):(c_=b_→(∀ k:Nat,(w1.getD k default).size≤1048576))∧(c_=b_→Imp (.l 1 eStr w1) (.l 1 eStr w1))∧K_:=⟨p_,fun _=>Imp.refl _,k_⟩
abbrev kh123 (w1:List ByteArray):Hint true Tryz.prog:=.call 123 (S123 w1) (ok123 w1) none
theorem kc124 (list:List ByteArray) (with':ByteArray) {K_:Prop} (p0_:list.length≤8) (p1_:∀ k:Nat,(list.getD k default).size≤1048576) (p2_:with'.size≤1) (k_:K_):(list.length≤8∧(∀ k:Nat,(list.getD k default).size≤1048576)∧with'.size≤1)∧(Imp (.l 1 eStr list) (.l 1 eStr list))∧(Imp (.v (.string with')) (.v (.string with')))∧K_:=⟨⟨p0_,p1_,p2_⟩,Imp.refl _,Imp.refl _,k_⟩
abbrev kh124 (list:List ByteArray) (with':ByteArray):Hint true Tryz.prog:=.call 124 (S124 list with') (ok124 list with') none
def F102 (line:ByteArray):ByteArray×Bool :=
 bif (bif (!(F40 line).2) then true else (!(F123 (F40 line).1))) then ((⟨#[]⟩:ByteArray),false) else ((F124 (F40 line).1 ⟨#[32]⟩),true)
theorem fi102 (line:ByteArray) (r:ByteArray×Bool) (hF:r=(F102 line)):((.string r.1:Value)=.string (F102 line).1)∧((.bool r.2:Value)=.bool (F102 line).2)∧True:=by cases hF; exact ⟨rfl,rfl,trivial⟩
def S102 (line:ByteArray):Spec:=⟨[.r (.c (.v (.string line)))],.tu [.v (.string (F102 line).1),.v (.bool (F102 line).2)],line.size≤1048576⟩
theorem ok102 (line:ByteArray):(S102 line).ok Tryz.prog 102 :=
 Qi mixed (fn:=Tryz.f102) (ct:=.seq .no (.seq (.reg [(1,kh40 line)]) (.seq (.seq (.reg [(4,kh123 (F40 line).1)]) (.cond (.seq .no .no) .no)) (.seq (.reg [(1,kh124 (F40 line).1 w15_)]) .no)))) Tryz.func102 (fun (hpre0:line.size≤1048576)=>kc40 line (by omega) (fun gv1 gv2=>kg123 (!(F40 line).2) false (F40 line).1 (fun k3=>have _:=(Yi k3); (by first | assumption | exact gv2 | (intros; exact trivial) | (intros; exact Nat.zero_le _))) (ifb (bif (!(F40 line).2) then true else (!(F123 (F40 line).1))) (fun h4=>fi102 line (w13_,false) (condT h4 rfl)) (fun h4=>have _:=(Yi (orF1 h4)); kc124 (F40 line).1 w15_ (by first | assumption | omega | decide) (by first | assumption | omega | decide) (by first | assumption | omega | decide) (fi102 line ((F124 (F40 line).1 w15_),true) (condF h4 rfl)))))) (by kernel_rfl)
theorem Qsm (line:ByteArray):F104 line=F102 line:=by
 unfold F104 F102
 rw [Hb,(Qdq _).1,Pm]
 cases (F40 line).2 <;> cases F123 (F40 line).1 <;> rfl
def Qdy (w:List ByteArray):Prop:=(w.getD 0 default).data.toList=[104,111,115,116]∧w.length=2∧F141 (w.getD 1 default)=true
def Wf (w:List ByteArray):Prop:=(w.getD 0 default).data.toList=[117,115,101,114]∧w.length=3∧F141 (w.getD 1 default)=true∧F142 (w.getD 2 default)=true
def Zv (w:List ByteArray):Prop:=(w.getD 0 default).data.toList=[112,111,114,116]∧(w.length=3∨w.length=5∧(w.getD 3 default).data.toList=[105,110]∧F141 (w.getD 4 default)=true)∧0≤F30 (w.getD 1 default)∧F30 (w.getD 1 default)≤7∧F143 (w.getD 2 default)=true
def Ks (w:List ByteArray):Prop:=(w.getD 0 default).data.toList=[114,117,108,101]∧w.length=7∧F141 (w.getD 1 default)=true∧0≤F30 (w.getD 2 default)∧F30 (w.getD 2 default)≤99∧((w.getD 3 default).data.toList=[112,101,114,109,105,116]∨(w.getD 3 default).data.toList=[100,101,110,121])∧F143 (w.getD 4 default)=true∧F143 (w.getD 5 default)=true∧0≤F30 (w.getD 6 default)∧F30 (w.getD 6 default)≤7
def Jo (w:List ByteArray):Prop:=(w.getD 0 default).data.toList=[114,111,117,116,101]∧w.length=3∧F143 (w.getD 1 default)=true∧F44 (w.getD 2 default)≥0
def Hq (w:List ByteArray):Prop:=(w.getD 0 default).data.toList=[112,101,101,114]∧w.length=4∧F44 (w.getD 1 default)≥0∧1≤F30 (w.getD 2 default)∧F30 (w.getD 2 default)≤9∧1≤F30 (w.getD 3 default)∧F30 (w.getD 3 default)≤999999
def natP (w:List ByteArray):Prop:=(w.getD 0 default).data.toList=[110,97,116]∧w.length=5∧F143 (w.getD 1 default)=true∧F44 (w.getD 2 default)≥0∧1≤F30 (w.getD 3 default)∧F30 (w.getD 3 default)≤65535∧1≤F30 (w.getD 4 default)∧F30 (w.getD 4 default)≤65535
def Kr (w:List ByteArray):Prop:=(w.getD 0 default).data.toList=[100,111,111,114]∧w.length=5∧1≤F30 (w.getD 1 default)∧F30 (w.getD 1 default)≤7∧1≤F30 (w.getD 2 default)∧F30 (w.getD 2 default)≤65535∧F44 (w.getD 3 default)≥0∧1≤F30 (w.getD 4 default)∧F30 (w.getD 4 default)≤65535
def We (w:List ByteArray):Prop:=Qdy w∨Wf w∨Zv w∨Ks w∨Jo w∨Hq w∨natP w∨Kr w
theorem Qmk (w:List ByteArray) (hF:F123 w=true):We w:=by
 have hw:w.length≠0:=fun h=>by
  obtain rfl:=List.eq_nil_of_length_eq_zero h
  exact Bool.false_ne_true hF
 have h0:((w.length:Int)==0)=false:=by rw [beq_eq_false_iff_ne]; omega
 have e0:w.getD (Int.toNat 0) default=w.getD 0 default:=rfl
 have e1:w.getD (Int.toNat 1) default=w.getD 1 default:=rfl
 have e2:w.getD (Int.toNat 2) default=w.getD 2 default:=rfl
 have e3:w.getD (Int.toNat 3) default=w.getD 3 default:=rfl
 have e4:w.getD (Int.toNat 4) default=w.getD 4 default:=rfl
 have e5:w.getD (Int.toNat 5) default=w.getD 5 default:=rfl
 have e6:w.getD (Int.toNat 6) default=w.getD 6 default:=rfl
 have n2:=Kq w 2
 have n3:=Kq w 3
 have n4:=Kq w 4
 have n5:=Kq w 5
 have n7:=Kq w 7
 simp only [Int.cast_ofNat_Int] at n2 n3 n4 n5 n7
 unfold F123 at hF
 simp only [h0,cond_false,e0,e1,e2,e3,e4,e5,e6,n2,n3,n4,n5,n7] at hF
 rcases Classical.em ((w.getD 0 default).data.toList=[104,111,115,116]) with h | hn0
 ·simp only [blit,h,hd00,cond_true,cond_false,cb1,cb2,Bool.and_eq_true,Bool.or_eq_true,decide_eq_true_eq,beq_iff_eq,and_assoc] at hF
  exact Or.inl ⟨h,hF⟩
 rcases Classical.em ((w.getD 0 default).data.toList=[117,115,101,114]) with h | hn1
 ·simp only [blit,h,hd10,hd11,cond_true,cond_false,cb1,cb2,Bool.and_eq_true,Bool.or_eq_true,decide_eq_true_eq,beq_iff_eq,and_assoc] at hF
  exact Or.inr (Or.inl ⟨h,hF⟩)
 rcases Classical.em ((w.getD 0 default).data.toList=[112,111,114,116]) with h | hn2
 ·simp only [blit,h,hd20,hd21,hd22,cond_true,cond_false,cb1,cb2,Bool.and_eq_true,Bool.or_eq_true,decide_eq_true_eq,beq_iff_eq,and_assoc] at hF
  exact Or.inr (Or.inr (Or.inl ⟨h,hF⟩))
 rcases Classical.em ((w.getD 0 default).data.toList=[114,117,108,101]) with h | hn3
 ·simp only [blit,h,hd30,hd31,hd32,hd33,cond_true,cond_false,cb1,cb2,Bool.and_eq_true,Bool.or_eq_true,decide_eq_true_eq,beq_iff_eq,and_assoc] at hF
  exact Or.inr (Or.inr (Or.inr (Or.inl ⟨h,hF⟩)))
 rcases Classical.em ((w.getD 0 default).data.toList=[114,111,117,116,101]) with h | hn4
 ·simp only [blit,h,hd40,hd41,hd42,hd43,hd44,cond_true,cond_false,cb1,cb2,Bool.and_eq_true,Bool.or_eq_true,decide_eq_true_eq,beq_iff_eq,and_assoc] at hF
  exact Or.inr (Or.inr (Or.inr (Or.inr (Or.inl ⟨h,hF⟩))))
 rcases Classical.em ((w.getD 0 default).data.toList=[112,101,101,114]) with h | hn5
 ·simp only [blit,h,hd50,hd51,hd52,hd53,hd54,hd55,cond_true,cond_false,cb1,cb2,Bool.and_eq_true,Bool.or_eq_true,decide_eq_true_eq,beq_iff_eq,and_assoc] at hF
  exact Or.inr (Or.inr (Or.inr (Or.inr (Or.inr (Or.inl ⟨h,hF⟩)))))
 rcases Classical.em ((w.getD 0 default).data.toList=[110,97,116]) with h | hn6
 ·simp only [blit,h,hd60,hd61,hd62,hd63,hd64,hd65,hd66,cond_true,cond_false,cb1,cb2,Bool.and_eq_true,Bool.or_eq_true,decide_eq_true_eq,beq_iff_eq,and_assoc] at hF
  exact Or.inr (Or.inr (Or.inr (Or.inr (Or.inr (Or.inr (Or.inl ⟨h,hF⟩))))))
 rcases Classical.em ((w.getD 0 default).data.toList=[100,111,111,114]) with h | hn7
 ·simp only [blit,h,hd70,hd71,hd72,hd73,hd74,hd75,hd76,hd77,cond_true,cond_false,cb1,cb2,Bool.and_eq_true,Bool.or_eq_true,decide_eq_true_eq,beq_iff_eq,and_assoc] at hF
  exact Or.inr (Or.inr (Or.inr (Or.inr (Or.inr (Or.inr (Or.inr (⟨h,hF⟩)))))))
 exfalso
 simp only [blit,beq_eq_false_iff_ne.2 hn0,beq_eq_false_iff_ne.2 hn1,beq_eq_false_iff_ne.2 hn2,beq_eq_false_iff_ne.2 hn3,beq_eq_false_iff_ne.2 hn4,beq_eq_false_iff_ne.2 hn5,beq_eq_false_iff_ne.2 hn6,beq_eq_false_iff_ne.2 hn7,cond_false] at hF
 exact Bool.false_ne_true hF
theorem Xw (w:List ByteArray) (h:We w):2≤w.length∧w.length≤7:=by
 unfold We Qdy Wf Zv Ks Jo Hq natP Kr at h
 omega
theorem Pe (w:List ByteArray) (h:We w):1≤keyN (w.getD 0 default).data.toList∧keyN (w.getD 0 default).data.toList≤3∧keyN (w.getD 0 default).data.toList≤(w.length:Int):=by
 rcases h with h | h | h | h | h | h | h | h
 ·have hk:keyN (w.getD 0 default).data.toList=1:=by rw [h.1]; decide
  unfold Qdy at h
  omega
 ·have hk:keyN (w.getD 0 default).data.toList=2:=by rw [h.1]; decide
  unfold Wf at h
  omega
 ·have hk:keyN (w.getD 0 default).data.toList=2:=by rw [h.1]; decide
  unfold Zv at h
  omega
 ·have hk:keyN (w.getD 0 default).data.toList=3:=by rw [h.1]; decide
  unfold Ks at h
  omega
 ·have hk:keyN (w.getD 0 default).data.toList=3:=by rw [h.1]; decide
  unfold Jo at h
  omega
 ·have hk:keyN (w.getD 0 default).data.toList=2:=by rw [h.1]; decide
  unfold Hq at h
  omega
 ·have hk:keyN (w.getD 0 default).data.toList=1:=by rw [h.1]; decide
  unfold natP at h
  omega
 ·have hk:keyN (w.getD 0 default).data.toList=3:=by rw [h.1]; decide
  unfold Kr at h
  omega
theorem Qer (c:UInt8):∀ (l:List UInt8),∀ w∈Qz c l,c ∉ w
 | [],w,h=>by rw [Qz,List.mem_singleton] at h; rw [h]; exact List.not_mem_nil
 | b :: l,w,h=>by
  have ih:=Qer c l
  rw [Qz] at h
  by_cases hb:b=c
  ·rw [if_pos hb] at h
   rcases List.mem_cons.1 h with rfl | h
   ·exact List.not_mem_nil
   ·exact ih w h
  ·rw [if_neg hb] at h
   have hbc:¬ c=b:=fun e=>hb e.symm
   cases hs:Qz c l with
   | nil =>
    rw [hs] at h
    rw [List.mem_singleton] at h; rw [h]
    intro hm; rcases List.mem_cons.1 hm with e | e
    ·exact hbc e
    ·cases e
   | cons p ps =>
    rw [hs] at h ih
    rcases List.mem_cons.1 h with rfl | h
    ·intro hm; rcases List.mem_cons.1 hm with e | e
     ·exact hbc e
     ·exact ih p List.mem_cons_self e
    ·exact ih w (List.mem_cons_of_mem _ h)
theorem Qbj (c:UInt8):∀ (ws:List (List UInt8)),ws≠[]→(∀ w∈ws,c ∉ w)→Qz c (Lib.join ws [c])=ws
 | [],h,_=>absurd rfl h
 | [x],_,h=>by rw [Lib.join_one,Uy (h x List.mem_cons_self)]
 | x :: y :: r,_,h=>by
  have ih:=Qbj c (y :: r) (by simp) fun w hw=>h w (List.mem_cons_of_mem _ hw)
  rw [Lib.join_cons]
  have e:Lib.joinTail [c] (y :: r)=c :: Lib.join (y :: r) [c]:=by rw [Lib.join_cons]; rfl
  rw [e,Yj _ (h x List.mem_cons_self),ih]
theorem Qox (line:ByteArray):∀ w∈(F40 line).1,(32:UInt8) ∉ w.data.toList∧w.data.toList≠[]∧w.size≤24:=by
 rw [Tj]
 unfold Jh fitW
 cases h:(((cut3 line (⟨#[35]⟩:ByteArray)).1.data.toList.all okB)&&(decide ((Ug (cut3 line (⟨#[35]⟩:ByteArray)).1.data.toList).length≤8)&&(Ug (cut3 line (⟨#[35]⟩:ByteArray)).1.data.toList).all fun w=>decide (w.length≤24))) with
 | false=>intro w hw; rw [cond_false] at hw; cases hw
 | true =>
  rw [cond_true]
  simp only [Bool.and_eq_true] at h
  intro w hw
  obtain ⟨l,hl,rfl⟩:=List.mem_map.1 hw
  have h1:=of_decide_eq_true (List.all_eq_true.1 h.2.2 l hl)
  have h2:=List.mem_filter.1 hl
  refine ⟨Qer 32 _ l h2.1,?_,h1⟩
  intro e
  have e':l=[]:=e
  rw [e'] at h2
  exact Bool.false_ne_true h2.2
structure Qxc (line:ByteArray) (w:List ByteArray):Prop where
 words:F40 line=(w,true)
 form:We w
 joins:Ys w (⟨#[32]⟩:ByteArray)=line
 splits:Qy line (⟨#[32]⟩:ByteArray)=w
 no:∀ x∈w,(32:UInt8) ∉ x.data.toList∧x.data.toList≠[]∧x.size≤24
theorem Qkb (w:List ByteArray) (h0:w≠[]) (h:∀ x∈w,(32:UInt8) ∉ x.data.toList):Qy (Ys w (⟨#[32]⟩:ByteArray)) (⟨#[32]⟩:ByteArray)=w:=by
 rw [Mv]
 have e:(Ys w (⟨#[32]⟩:ByteArray)).data.toList=Lib.join (w.map (·.data.toList)) [32]:=rfl
 rw [e,Qbj 32 _ (by simpa using h0) (fun x hx=>by obtain ⟨y,hy,rfl⟩:=List.mem_map.1 hx; exact h y hy),List.map_map]
 exact (List.map_congr_left fun x _=>Rk x).trans (List.map_id _)
theorem Pj (line:ByteArray):F102 line=bif (F40 line).2&&F123 (F40 line).1 then (Ys (F40 line).1 (⟨#[32]⟩:ByteArray),true) else ((⟨#[]⟩:ByteArray),false):=by
 unfold F102
 rw [Pm]
 cases (F40 line).2 <;> cases F123 (F40 line).1 <;> rfl
theorem Qgo (a b:ByteArray):(a.toList==b.toList)=decide (a=b):=by
 rw [Ua,Ua]
 by_cases h:a=b
 ·rw [h,decide_eq_true rfl]; simp
 ·rw [decide_eq_false h,beq_eq_false_iff_ne]; exact fun e=>h (Vj e)
theorem Ufn (line:ByteArray) (h:(F102 line).2=true∧(F102 line).1=line):Qxc line (F40 line).1:=by
 rw [Pj] at h
 cases hc:((F40 line).2&&F123 (F40 line).1) with
 | false=>rw [hc,cond_false] at h; exact absurd h.1 Bool.false_ne_true
 | true =>
  rw [hc,cond_true] at h
  simp only [Bool.and_eq_true] at hc
  have hf:=Qmk _ hc.2
  have hn:=Qox line
  refine ⟨Prod.ext rfl hc.1,hf,h.2,?_,hn⟩
  have hne:(F40 line).1≠[]:=fun e=>by have:=(Xw _ hf).1; rw [e] at this; simp at this
  have:=Qkb _ hne fun x hx=>(hn x hx).1
  have e:Ys (F40 line).1 (⟨#[32]⟩:ByteArray)=line:=h.2
  rwa [e] at this
theorem kc104 (line:ByteArray) {K_:Prop} (p0_:line.size≤1048576) (k_:K_):(line.size≤1048576)∧(Imp (.v (.string line)) (.v (.string line)))∧K_:=⟨p0_,Imp.refl _,k_⟩
abbrev kh104 (line:ByteArray):Hint false Tryz.prog:=.call 104 (S104 line) (ok104 line) none
def F81 (line:ByteArray):Bool :=
 (bif (F104 line).2 then ((F104 line).1.toList==line.toList) else false)
def S81 (line:ByteArray):Spec:=⟨[.r (.c (.v (.string line)))],.v (.bool (F81 line)),line.size≤1048576⟩
theorem ok81 (line:ByteArray):(S81 line).ok Tryz.prog 81 false :=
 Qi mixed (fn:=Tryz.f81) (ct:=.seq .no (.seq (.reg [(1,kh104 line)]) (.seq .no .no))) Tryz.func81 (fun (hpre0:line.size≤1048576)=>kc104 line (by omega) (fiB (bif (F104 line).2 then ((F104 line).1.toList==line.toList) else false) (F81 line) rfl)) (by kernel_rfl)
theorem kc102 (line:ByteArray) {K_:Prop} (p0_:line.size≤1048576) (k_:K_):(line.size≤1048576)∧(Imp (.v (.string line)) (.v (.string line)))∧K_:=⟨p0_,Imp.refl _,k_⟩
abbrev kh102 (line:ByteArray):Hint true Tryz.prog:=.call 102 (S102 line) (ok102 line) none
def F77 (line:ByteArray):Bool :=
 (bif (F102 line).2 then ((F102 line).1.toList==line.toList) else false)
def S77 (line:ByteArray):Spec:=⟨[.r (.c (.v (.string line)))],.v (.bool (F77 line)),line.size≤1048576⟩
theorem ok77 (line:ByteArray):(S77 line).ok Tryz.prog 77 :=
 Qi mixed (fn:=Tryz.f77) (ct:=.seq .no (.seq (.reg [(1,kh102 line)]) (.seq .no .no))) Tryz.func77 (fun (hpre0:line.size≤1048576)=>kc102 line (by omega) (fiB (bif (F102 line).2 then ((F102 line).1.toList==line.toList) else false) (F77 line) rfl)) (by kernel_rfl)
theorem Vb (line:ByteArray):F81 line=F77 line:=by
 unfold F81 F77
 rw [Qsm]
theorem Qhx (line:ByteArray):F77 line=true↔(F102 line).2=true∧(F102 line).1=line:=by
 unfold F77
 rw [cb1,Qgo,Bool.and_eq_true,decide_eq_true_eq]
theorem Gr (line:ByteArray) (h:F77 line=true):Qxc line (F40 line).1:=Ufn line ((Qhx line).1 h)
theorem not_false {b:Bool} (h:(!b)=false):b=true:=by cases b; exact h.symm; rfl
theorem kix_n (line:ByteArray) (hk:(!F77 line)=false):(2:Int)≤((F40 line).1.length:Int):=by
 have:=(Xw _ (Gr line (not_false hk)).form).1; omega
theorem kix0 (line:ByteArray) (hk:(!F77 line)=false):(0:Int)≤0∧(0:Int)<((F40 line).1.length:Int):=by have:=kix_n line hk; omega
theorem kix1 (line:ByteArray) (hk:(!F77 line)=false):(0:Int)≤1∧(1:Int)<((F40 line).1.length:Int):=by have:=kix_n line hk; omega
theorem Jz (line:ByteArray) (hk:(!F77 line)=false) (h:(((F40 line).1.getD (Int.toNat 0) default).toList==(⟨#[114,117,108,101]⟩:ByteArray).toList)=true):(0:Int)≤2∧(2:Int)<((F40 line).1.length:Int):=by
 have hf:=(Gr line (not_false hk)).form
 rw [blit,beq_iff_eq] at h
 have h:((F40 line).1.getD 0 default).data.toList=[114,117,108,101]:=h
 unfold We Qdy Wf Zv Ks Jo Hq natP Kr at hf
 simp only [h] at hf
 simp at hf
 omega
theorem Jv (line:ByteArray) (hk:(!F77 line)=false) (h:(((F40 line).1.getD (Int.toNat 0) default).toList==(⟨#[100,111,111,114]⟩:ByteArray).toList)=true):(0:Int)≤2∧(2:Int)<((F40 line).1.length:Int):=by
 have hf:=(Gr line (not_false hk)).form
 rw [blit,beq_iff_eq] at h
 have h:((F40 line).1.getD 0 default).data.toList=[100,111,111,114]:=h
 unfold We Qdy Wf Zv Ks Jo Hq natP Kr at hf
 simp only [h] at hf
 simp at hf
 omega
theorem Qso (line:ByteArray) (h:F77 line=true):F123 (F40 line).1=true:=by
 have:=((Qhx line).1 h).1
 rw [Pj] at this
 cases hc:F123 (F40 line).1 with
 | true=>rfl
 | false=>rw [hc,Bool.and_false,cond_false] at this; exact this
theorem Nd (line:ByteArray) (h:F77 line=true):(F105 (F51 line (⟨#[32]⟩:ByteArray))).1.key=keyN (((F40 line).1.getD 0 default).data.toList)∧F51 line (⟨#[32]⟩:ByteArray)=(F40 line).1:=by
 have hk:=Gr line h
 have e:F51 line (⟨#[32]⟩:ByteArray)=(F40 line).1:=hk.splits
 rw [e]
 obtain ⟨f1,f2⟩:=Qdq (F40 line).1
 exact ⟨f2 (f1.trans (Qso line h)),rfl⟩
theorem Ubm (line:ByteArray) (h:F81 line=true):0≤((F105 (F51 line (⟨#[32]⟩:ByteArray))).1).key∧((F105 (F51 line (⟨#[32]⟩:ByteArray))).1).key≤((F51 line (⟨#[32]⟩:ByteArray)).length:Int):=by
 rw [Vb] at h
 obtain ⟨k1,k2⟩:=Nd line h
 have:=Pe _ (Gr line h).form
 rw [k1,k2]
 omega
theorem Qxe (line:ByteArray) (h:line.size≤1048576):∀ k:Nat,((F51 line (⟨#[32]⟩:ByteArray)).getD k default).size≤1048576:=fun k=>by
 show ((Qy line (⟨#[32]⟩:ByteArray)).getD k default).size≤1048576
 rw [Mv]
 refine En _ _ (fun w hw=>?_) k
 have:=Nj 32 _ w hw
 have hl:line.data.toList.length=line.size:=Array.length_toList
 omega
theorem Qri (ws:List ByteArray) (n m:Nat) (h:∀ k:Nat,(ws.getD k default).size≤m) (k:Nat):((ws.take n).getD k default).size≤m:=by
 rw [List.getD_eq_getElem?_getD,List.getElem?_take]
 by_cases hk:k<n
 ·rw [if_pos hk,← List.getD_eq_getElem?_getD]; exact h k
 ·rw [if_neg hk]; exact Nat.zero_le _
theorem Qec (line:ByteArray) (hk:(!F81 line)=false) :
  ((F51 line (⟨#[32]⟩:ByteArray)).take (Int.toNat (((F105 (F51 line (⟨#[32]⟩:ByteArray))).1).key))).length≤140737488355328 ∧
  (Ys ((F51 line (⟨#[32]⟩:ByteArray)).take (Int.toNat (((F105 (F51 line (⟨#[32]⟩:ByteArray))).1).key))) (⟨#[32]⟩:ByteArray)).size≤140737488355328:=by
 have h:=not_false hk
 rw [Vb] at h
 obtain ⟨k1,k2⟩:=Nd line h
 rw [k2]
 have hl:(((F40 line).1).take (Int.toNat (((F105 ((F40 line).1)).1).key))).length≤8:=by
  rw [List.length_take]
  have:=Gt line
  omega
 exact ⟨Nat.le_trans hl (by decide),Hp _ _ (Qri _ _ _ (Qd line)) hl (by decide)⟩
theorem kc81 (line:ByteArray) {K_:Prop} (p0_:line.size≤1048576) (k_:K_):(line.size≤1048576)∧(Imp (.v (.string line)) (.v (.string line)))∧K_:=⟨p0_,Imp.refl _,k_⟩
abbrev kh81 (line:ByteArray):Hint false Tryz.prog:=.call 81 (S81 line) (ok81 line) none
def F82 (line:ByteArray):ByteArray :=
 bif (!(F81 line)) then (⟨#[]⟩:ByteArray) else (F106 ((F51 line ⟨#[32]⟩).take (Int.toNat (F105 (F51 line ⟨#[32]⟩)).1.key)) ⟨#[32]⟩)
def S82 (line:ByteArray):Spec:=⟨[.r (.c (.v (.string line)))],.v (.string (F82 line)),line.size≤1048576⟩
theorem ok82 (line:ByteArray):(S82 line).ok Tryz.prog 82 false :=
 Qi mixed (fn:=Tryz.f82) (ct:=.seq .no (.seq (.seq (.reg [(1,kh81 line)]) (.cond (.seq .no .no) .no)) (.seq (.reg [(1,kh51f line w15_)]) (.seq (.reg [(1,kh105 (F51 line w15_))]) (.seq (.reg [(4,kh106 ((F51 line w15_).take (Int.toNat (F105 (F51 line w15_)).1.key)) w15_)]) .no))))) Tryz.func82 (fun (hpre0:line.size≤1048576)=>kc81 line (by omega) (ifb (!(F81 line)) (fun h1=>fiS w13_ (F82 line) (condT h1 rfl)) (fun h1=>have _:0≤(F105 (F51 line w15_)).1.key∧(F105 (F51 line w15_)).1.key≤((F51 line w15_).length:Int):=Ubm line (Yi h1); kc51 line w15_ (by omega) (by decide) (by decide) (by decide) (fun gv2 gv3=>kc105 (F51 line w15_) (by exact Qxe line (by omega)) (ai (by omega:0≤(0:Int)∧(0:Int)≤(F105 (F51 line w15_)).1.key∧(F105 (F51 line w15_)).1.key≤((F51 line w15_).length:Int)) (kc106 ((F51 line w15_).take (Int.toNat (F105 (F51 line w15_)).1.key)) w15_ (by exact (Qec _ (by assumption)).1) (by exact (Qec _ (by assumption)).2) (fiS (F106 ((F51 line w15_).take (Int.toNat (F105 (F51 line w15_)).1.key)) w15_) (F82 line) (condF h1 rfl)))))))) (by kernel_rfl)
theorem kc77 (line:ByteArray) {K_:Prop} (p0_:line.size≤1048576) (k_:K_):(line.size≤1048576)∧(Imp (.v (.string line)) (.v (.string line)))∧K_:=⟨p0_,Imp.refl _,k_⟩
abbrev kh77 (line:ByteArray):Hint true Tryz.prog:=.call 77 (S77 line) (ok77 line) none
def F57 (line:ByteArray):ByteArray :=
 bif (!(F77 line)) then (⟨#[]⟩:ByteArray) else (bif (((F40 line).1.getD (Int.toNat 0) default).toList==(⟨#[104,111,115,116]⟩:ByteArray).toList) then (bif (((F40 line).1.getD (Int.toNat 0) default).toList==(⟨#[104,111,115,116]⟩:ByteArray).toList) then ((F40 line).1.getD (Int.toNat 0) default) else (bif (((F40 line).1.getD (Int.toNat 0) default).toList==(⟨#[117,115,101,114]⟩:ByteArray).toList) then (bif (((F40 line).1.getD (Int.toNat 0) default).toList==(⟨#[117,115,101,114]⟩:ByteArray).toList) then ((((F40 line).1.getD (Int.toNat 0) default)++(⟨#[32]⟩:ByteArray))++((F40 line).1.getD (Int.toNat 1) default)) else (bif (((F40 line).1.getD (Int.toNat 0) default).toList==(⟨#[114,117,108,101]⟩:ByteArray).toList) then (bif (((F40 line).1.getD (Int.toNat 0) default).toList==(⟨#[114,117,108,101]⟩:ByteArray).toList) then ((((((F40 line).1.getD (Int.toNat 0) default)++(⟨#[32]⟩:ByteArray))++((F40 line).1.getD (Int.toNat 1) default))++(⟨#[32]⟩:ByteArray))++((F40 line).1.getD (Int.toNat 2) default)) else line) else (bif (((F40 line).1.getD (Int.toNat 0) default).toList==(⟨#[100,111,111,114]⟩:ByteArray).toList) then ((((((F40 line).1.getD (Int.toNat 0) default)++(⟨#[32]⟩:ByteArray))++((F40 line).1.getD (Int.toNat 1) default))++(⟨#[32]⟩:ByteArray))++((F40 line).1.getD (Int.toNat 2) default)) else line))) else (bif (((F40 line).1.getD (Int.toNat 0) default).toList==(⟨#[112,111,114,116]⟩:ByteArray).toList) then (bif (((F40 line).1.getD (Int.toNat 0) default).toList==(⟨#[112,111,114,116]⟩:ByteArray).toList) then ((((F40 line).1.getD (Int.toNat 0) default)++(⟨#[32]⟩:ByteArray))++((F40 line).1.getD (Int.toNat 1) default)) else (bif (((F40 line).1.getD (Int.toNat 0) default).toList==(⟨#[114,117,108,101]⟩:ByteArray).toList) then (bif (((F40 line).1.getD (Int.toNat 0) default).toList==(⟨#[114,117,108,101]⟩:ByteArray).toList) then ((((((F40 line).1.getD (Int.toNat 0) default)++(⟨#[32]⟩:ByteArray))++((F40 line).1.getD (Int.toNat 1) default))++(⟨#[32]⟩:ByteArray))++((F40 line).1.getD (Int.toNat 2) default)) else line) else (bif (((F40 line).1.getD (Int.toNat 0) default).toList==(⟨#[100,111,111,114]⟩:ByteArray).toList) then ((((((F40 line).1.getD (Int.toNat 0) default)++(⟨#[32]⟩:ByteArray))++((F40 line).1.getD (Int.toNat 1) default))++(⟨#[32]⟩:ByteArray))++((F40 line).1.getD (Int.toNat 2) default)) else line))) else (bif (((F40 line).1.getD (Int.toNat 0) default).toList==(⟨#[112,101,101,114]⟩:ByteArray).toList) then ((((F40 line).1.getD (Int.toNat 0) default)++(⟨#[32]⟩:ByteArray))++((F40 line).1.getD (Int.toNat 1) default)) else (bif (((F40 line).1.getD (Int.toNat 0) default).toList==(⟨#[114,117,108,101]⟩:ByteArray).toList) then (bif (((F40 line).1.getD (Int.toNat 0) default).toList==(⟨#[114,117,108,101]⟩:ByteArray).toList) then ((((((F40 line).1.getD (Int.toNat 0) default)++(⟨#[32]⟩:ByteArray))++((F40 line).1.getD (Int.toNat 1) default))++(⟨#[32]⟩:ByteArray))++((F40 line).1.getD (Int.toNat 2) default)) else line) else (bif (((F40 line).1.getD (Int.toNat 0) default).toList==(⟨#[100,111,111,114]⟩:ByteArray).toList) then ((((((F40 line).1.getD (Int.toNat 0) default)++(⟨#[32]⟩:ByteArray))++((F40 line).1.getD (Int.toNat 1) default))++(⟨#[32]⟩:ByteArray))++((F40 line).1.getD (Int.toNat 2) default)) else line)))))) else (bif (((F40 line).1.getD (Int.toNat 0) default).toList==(⟨#[110,97,116]⟩:ByteArray).toList) then ((F40 line).1.getD (Int.toNat 0) default) else (bif (((F40 line).1.getD (Int.toNat 0) default).toList==(⟨#[117,115,101,114]⟩:ByteArray).toList) then (bif (((F40 line).1.getD (Int.toNat 0) default).toList==(⟨#[117,115,101,114]⟩:ByteArray).toList) then ((((F40 line).1.getD (Int.toNat 0) default)++(⟨#[32]⟩:ByteArray))++((F40 line).1.getD (Int.toNat 1) default)) else (bif (((F40 line).1.getD (Int.toNat 0) default).toList==(⟨#[114,117,108,101]⟩:ByteArray).toList) then (bif (((F40 line).1.getD (Int.toNat 0) default).toList==(⟨#[114,117,108,101]⟩:ByteArray).toList) then ((((((F40 line).1.getD (Int.toNat 0) default)++(⟨#[32]⟩:ByteArray))++((F40 line).1.getD (Int.toNat 1) default))++(⟨#[32]⟩:ByteArray))++((F40 line).1.getD (Int.toNat 2) default)) else line) else (bif (((F40 line).1.getD (Int.toNat 0) default).toList==(⟨#[100,111,111,114]⟩:ByteArray).toList) then ((((((F40 line).1.getD (Int.toNat 0) default)++(⟨#[32]⟩:ByteArray))++((F40 line).1.getD (Int.toNat 1) default))++(⟨#[32]⟩:ByteArray))++((F40 line).1.getD (Int.toNat 2) default)) else line))) else (bif (((F40 line).1.getD (Int.toNat 0) default).toList==(⟨#[112,111,114,116]⟩:ByteArray).toList) then (bif (((F40 line).1.getD (Int.toNat 0) default).toList==(⟨#[112,111,114,116]⟩:ByteArray).toList) then ((((F40 line).1.getD (Int.toNat 0) default)++(⟨#[32]⟩:ByteArray))++((F40 line).1.getD (Int.toNat 1) default)) else (bif (((F40 line).1.getD (Int.toNat 0) default).toList==(⟨#[114,117,108,101]⟩:ByteArray).toList) then (bif (((F40 line).1.getD (Int.toNat 0) default).toList==(⟨#[114,117,108,101]⟩:ByteArray).toList) then ((((((F40 line).1.getD (Int.toNat 0) default)++(⟨#[32]⟩:ByteArray))++((F40 line).1.getD (Int.toNat 1) default))++(⟨#[32]⟩:ByteArray))++((F40 line).1.getD (Int.toNat 2) default)) else line) else (bif (((F40 line).1.getD (Int.toNat 0) default).toList==(⟨#[100,111,111,114]⟩:ByteArray).toList) then ((((((F40 line).1.getD (Int.toNat 0) default)++(⟨#[32]⟩:ByteArray))++((F40 line).1.getD (Int.toNat 1) default))++(⟨#[32]⟩:ByteArray))++((F40 line).1.getD (Int.toNat 2) default)) else line))) else (bif (((F40 line).1.getD (Int.toNat 0) default).toList==(⟨#[112,101,101,114]⟩:ByteArray).toList) then ((((F40 line).1.getD (Int.toNat 0) default)++(⟨#[32]⟩:ByteArray))++((F40 line).1.getD (Int.toNat 1) default)) else (bif (((F40 line).1.getD (Int.toNat 0) default).toList==(⟨#[114,117,108,101]⟩:ByteArray).toList) then (bif (((F40 line).1.getD (Int.toNat 0) default).toList==(⟨#[114,117,108,101]⟩:ByteArray).toList) then ((((((F40 line).1.getD (Int.toNat 0) default)++(⟨#[32]⟩:ByteArray))++((F40 line).1.getD (Int.toNat 1) default))++(⟨#[32]⟩:ByteArray))++((F40 line).1.getD (Int.toNat 2) default)) else line) else (bif (((F40 line).1.getD (Int.toNat 0) default).toList==(⟨#[100,111,111,114]⟩:ByteArray).toList) then ((((((F40 line).1.getD (Int.toNat 0) default)++(⟨#[32]⟩:ByteArray))++((F40 line).1.getD (Int.toNat 1) default))++(⟨#[32]⟩:ByteArray))++((F40 line).1.getD (Int.toNat 2) default)) else line)))))))
def S57 (line:ByteArray):Spec:=⟨[.r (.c (.v (.string line)))],.v (.string (F57 line)),line.size≤1048576⟩
theorem ok57 (line:ByteArray):(S57 line).ok Tryz.prog 57 :=
 Qi mixed (fn:=Tryz.f57) (ct:=.seq .no (.seq (.seq (.reg [(1,kh77 line)]) (.cond (.seq .no .no) .no)) (.seq (.reg [(1,kh40 line)]) (.seq (.seq .no (.blk (.seq (.seq .no (.cond .no .no)) (.cond (.seq .no .no) (.seq (.seq .no (.cond .no (.seq .no (.cond .no .no)))) (.cond (.seq .no .no) (.seq (.seq .no (.cond .no .no)) (.cond (.seq .no .no) .no)))))))) (.seq .no .no))))) Tryz.func57 (fun (hpre0:line.size≤1048576)=>kc77 line (by omega) (ifb (!(F77 line)) (fun h1=>fiS w13_ (F57 line) (condT h1 rfl)) (fun h1=>kc40 line (by omega) (fun gv2 gv3=>ai (by (exact kix0 _ (by assumption)):0≤(0:Int)∧(0:Int)<((F40 line).1.length:Int)) (ifb (((F40 line).1.getD (Int.toNat 0) default).toList==w4_.toList) (fun h4=>ifb (((F40 line).1.getD (Int.toNat 0) default).toList==w4_.toList) (fun h5=>ai (by (exact kix0 _ (by assumption)):0≤(0:Int)∧(0:Int)<((F40 line).1.length:Int)) (fiS ((F40 line).1.getD (Int.toNat 0) default) (F57 line) (condF h1 (condT h4 (condT h5 rfl))))) (fun h5=>ifb (((F40 line).1.getD (Int.toNat 0) default).toList==w10_.toList) (fun h6=>ifb (((F40 line).1.getD (Int.toNat 0) default).toList==w10_.toList) (fun h7=>ai (by (exact kix0 _ (by assumption)):0≤(0:Int)∧(0:Int)<((F40 line).1.length:Int)) (ai (by (have hz:=Qd line; have hz0:=hz (Int.toNat 0); have hz1:=hz (Int.toNat 1); have hz2:=hz (Int.toNat 2); have hs:w15_.size=1:=rfl; (try simp only [Qn] at *); omega):((((F40 line).1.getD (Int.toNat 0) default).size+w15_.size:Nat):Int)≤9223372036854775807) (ai (by (exact kix1 _ (by assumption)):0≤(1:Int)∧(1:Int)<((F40 line).1.length:Int)) (ai (by (have hz:=Qd line; have hz0:=hz (Int.toNat 0); have hz1:=hz (Int.toNat 1); have hz2:=hz (Int.toNat 2); have hs:w15_.size=1:=rfl; (try simp only [Qn] at *); omega):(((((F40 line).1.getD (Int.toNat 0) default)++w15_).size+((F40 line).1.getD (Int.toNat 1) default).size:Nat):Int)≤9223372036854775807) (fiS ((((F40 line).1.getD (Int.toNat 0) default)++w15_)++((F40 line).1.getD (Int.toNat 1) default)) (F57 line) (condF h1 (condT h4 (condF h5 (condT h6 (condT h7 rfl)))))))))) (fun h7=>ifb (((F40 line).1.getD (Int.toNat 0) default).toList==w9_.toList) (fun h8=>ifb (((F40 line).1.getD (Int.toNat 0) default).toList==w9_.toList) (fun h9=>ai (by (exact kix0 _ (by assumption)):0≤(0:Int)∧(0:Int)<((F40 line).1.length:Int)) (ai (by (have hz:=Qd line; have hz0:=hz (Int.toNat 0); have hz1:=hz (Int.toNat 1); have hz2:=hz (Int.toNat 2); have hs:w15_.size=1:=rfl; (try simp only [Qn] at *); omega):((((F40 line).1.getD (Int.toNat 0) default).size+w15_.size:Nat):Int)≤9223372036854775807) (ai (by (exact kix1 _ (by assumption)):0≤(1:Int)∧(1:Int)<((F40 line).1.length:Int)) (ai (by (have hz:=Qd line; have hz0:=hz (Int.toNat 0); have hz1:=hz (Int.toNat 1); have hz2:=hz (Int.toNat 2); have hs:w15_.size=1:=rfl; (try simp only [Qn] at *); omega):(((((F40 line).1.getD (Int.toNat 0) default)++w15_).size+((F40 line).1.getD (Int.toNat 1) default).size:Nat):Int)≤9223372036854775807) (ai (by (have hz:=Qd line; have hz0:=hz (Int.toNat 0); have hz1:=hz (Int.toNat 1); have hz2:=hz (Int.toNat 2); have hs:w15_.size=1:=rfl; (try simp only [Qn] at *); omega):((((((F40 line).1.getD (Int.toNat 0) default)++w15_)++((F40 line).1.getD (Int.toNat 1) default)).size+w15_.size:Nat):Int)≤9223372036854775807) (ai (by (exact Jz _ (by assumption) (by assumption)):0≤(2:Int)∧(2:Int)<((F40 line).1.length:Int)) (ai (by (have hz:=Qd line; have hz0:=hz (Int.toNat 0); have hz1:=hz (Int.toNat 1); have hz2:=hz (Int.toNat 2); have hs:w15_.size=1:=rfl; (try simp only [Qn] at *); omega):(((((((F40 line).1.getD (Int.toNat 0) default)++w15_)++((F40 line).1.getD (Int.toNat 1) default))++w15_).size+((F40 line).1.getD (Int.toNat 2) default).size:Nat):Int)≤9223372036854775807) (fiS ((((((F40 line).1.getD (Int.toNat 0) default)++w15_)++((F40 line).1.getD (Int.toNat 1) default))++w15_)++((F40 line).1.getD (Int.toNat 2) default)) (F57 line) (condF h1 (condT h4 (condF h5 (condT h6 (condF h7 (condT h8 (condT h9 rfl))))))))))))))) (fun h9=>fiS line (F57 line) (condF h1 (condT h4 (condF h5 (condT h6 (condF h7 (condT h8 (condF h9 rfl))))))))) (fun h8=>ifb (((F40 line).1.getD (Int.toNat 0) default).toList==w3_.toList) (fun h10=>ai (by (exact kix0 _ (by assumption)):0≤(0:Int)∧(0:Int)<((F40 line).1.length:Int)) (ai (by (have hz:=Qd line; have hz0:=hz (Int.toNat 0); have hz1:=hz (Int.toNat 1); have hz2:=hz (Int.toNat 2); have hs:w15_.size=1:=rfl; (try simp only [Qn] at *); omega):((((F40 line).1.getD (Int.toNat 0) default).size+w15_.size:Nat):Int)≤9223372036854775807) (ai (by (exact kix1 _ (by assumption)):0≤(1:Int)∧(1:Int)<((F40 line).1.length:Int)) (ai (by (have hz:=Qd line; have hz0:=hz (Int.toNat 0); have hz1:=hz (Int.toNat 1); have hz2:=hz (Int.toNat 2); have hs:w15_.size=1:=rfl; (try simp only [Qn] at *); omega):(((((F40 line).1.getD (Int.toNat 0) default)++w15_).size+((F40 line).1.getD (Int.toNat 1) default).size:Nat):Int)≤9223372036854775807) (ai (by (have hz:=Qd line; have hz0:=hz (Int.toNat 0); have hz1:=hz (Int.toNat 1); have hz2:=hz (Int.toNat 2); have hs:w15_.size=1:=rfl; (try simp only [Qn] at *); omega):((((((F40 line).1.getD (Int.toNat 0) default)++w15_)++((F40 line).1.getD (Int.toNat 1) default)).size+w15_.size:Nat):Int)≤9223372036854775807) (ai (by (exact Jv _ (by assumption) (by assumption)):0≤(2:Int)∧(2:Int)<((F40 line).1.length:Int)) (ai (by (have hz:=Qd line; have hz0:=hz (Int.toNat 0); have hz1:=hz (Int.toNat 1); have hz2:=hz (Int.toNat 2); have hs:w15_.size=1:=rfl; (try simp only [Qn] at *); omega):(((((((F40 line).1.getD (Int.toNat 0) default)++w15_)++((F40 line).1.getD (Int.toNat 1) default))++w15_).size+((F40 line).1.getD (Int.toNat 2) default).size:Nat):Int)≤9223372036854775807) (fiS ((((((F40 line).1.getD (Int.toNat 0) default)++w15_)++((F40 line).1.getD (Int.toNat 1) default))++w15_)++((F40 line).1.getD (Int.toNat 2) default)) (F57 line) (condF h1 (condT h4 (condF h5 (condT h6 (condF h7 (condF h8 (condT h10 rfl))))))))))))))) (fun h10=>fiS line (F57 line) (condF h1 (condT h4 (condF h5 (condT h6 (condF h7 (condF h8 (condF h10 rfl))))))))))) (fun h6=>ifb (((F40 line).1.getD (Int.toNat 0) default).toList==w7_.toList) (fun h11=>ifb (((F40 line).1.getD (Int.toNat 0) default).toList==w7_.toList) (fun h12=>ai (by (exact kix0 _ (by assumption)):0≤(0:Int)∧(0:Int)<((F40 line).1.length:Int)) (ai (by (have hz:=Qd line; have hz0:=hz (Int.toNat 0); have hz1:=hz (Int.toNat 1); have hz2:=hz (Int.toNat 2); have hs:w15_.size=1:=rfl; (try simp only [Qn] at *); omega):((((F40 line).1.getD (Int.toNat 0) default).size+w15_.size:Nat):Int)≤9223372036854775807) (ai (by (exact kix1 _ (by assumption)):0≤(1:Int)∧(1:Int)<((F40 line).1.length:Int)) (ai (by (have hz:=Qd line; have hz0:=hz (Int.toNat 0); have hz1:=hz (Int.toNat 1); have hz2:=hz (Int.toNat 2); have hs:w15_.size=1:=rfl; (try simp only [Qn] at *); omega):(((((F40 line).1.getD (Int.toNat 0) default)++w15_).size+((F40 line).1.getD (Int.toNat 1) default).size:Nat):Int)≤9223372036854775807) (fiS ((((F40 line).1.getD (Int.toNat 0) default)++w15_)++((F40 line).1.getD (Int.toNat 1) default)) (F57 line) (condF h1 (condT h4 (condF h5 (condF h6 (condT h11 (condT h12 rfl))))))))))) (fun h12=>ifb (((F40 line).1.getD (Int.toNat 0) default).toList==w9_.toList) (fun h13=>ifb (((F40 line).1.getD (Int.toNat 0) default).toList==w9_.toList) (fun h14=>ai (by (exact kix0 _ (by assumption)):0≤(0:Int)∧(0:Int)<((F40 line).1.length:Int)) (ai (by (have hz:=Qd line; have hz0:=hz (Int.toNat 0); have hz1:=hz (Int.toNat 1); have hz2:=hz (Int.toNat 2); have hs:w15_.size=1:=rfl; (try simp only [Qn] at *); omega):((((F40 line).1.getD (Int.toNat 0) default).size+w15_.size:Nat):Int)≤9223372036854775807) (ai (by (exact kix1 _ (by assumption)):0≤(1:Int)∧(1:Int)<((F40 line).1.length:Int)) (ai (by (have hz:=Qd line; have hz0:=hz (Int.toNat 0); have hz1:=hz (Int.toNat 1); have hz2:=hz (Int.toNat 2); have hs:w15_.size=1:=rfl; (try simp only [Qn] at *); omega):(((((F40 line).1.getD (Int.toNat 0) default)++w15_).size+((F40 line).1.getD (Int.toNat 1) default).size:Nat):Int)≤9223372036854775807) (ai (by (have hz:=Qd line; have hz0:=hz (Int.toNat 0); have hz1:=hz (Int.toNat 1); have hz2:=hz (Int.toNat 2); have hs:w15_.size=1:=rfl; (try simp only [Qn] at *); omega):((((((F40 line).1.getD (Int.toNat 0) default)++w15_)++((F40 line).1.getD (Int.toNat 1) default)).size+w15_.size:Nat):Int)≤9223372036854775807) (ai (by (exact Jz _ (by assumption) (by assumption)):0≤(2:Int)∧(2:Int)<((F40 line).1.length:Int)) (ai (by (have hz:=Qd line; have hz0:=hz (Int.toNat 0); have hz1:=hz (Int.toNat 1); have hz2:=hz (Int.toNat 2); have hs:w15_.size=1:=rfl; (try simp only [Qn] at *); omega):(((((((F40 line).1.getD (Int.toNat 0) default)++w15_)++((F40 line).1.getD (Int.toNat 1) default))++w15_).size+((F40 line).1.getD (Int.toNat 2) default).size:Nat):Int)≤9223372036854775807) (fiS ((((((F40 line).1.getD (Int.toNat 0) default)++w15_)++((F40 line).1.getD (Int.toNat 1) default))++w15_)++((F40 line).1.getD (Int.toNat 2) default)) (F57 line) (condF h1 (condT h4 (condF h5 (condF h6 (condT h11 (condF h12 (condT h13 (condT h14 rfl)))))))))))))))) (fun h14=>fiS line (F57 line) (condF h1 (condT h4 (condF h5 (condF h6 (condT h11 (condF h12 (condT h13 (condF h14 rfl)))))))))) (fun h13=>ifb (((F40 line).1.getD (Int.toNat 0) default).toList==w3_.toList) (fun h15=>ai (by (exact kix0 _ (by assumption)):0≤(0:Int)∧(0:Int)<((F40 line).1.length:Int)) (ai (by (have hz:=Qd line; have hz0:=hz (Int.toNat 0); have hz1:=hz (Int.toNat 1); have hz2:=hz (Int.toNat 2); have hs:w15_.size=1:=rfl; (try simp only [Qn] at *); omega):((((F40 line).1.getD (Int.toNat 0) default).size+w15_.size:Nat):Int)≤9223372036854775807) (ai (by (exact kix1 _ (by assumption)):0≤(1:Int)∧(1:Int)<((F40 line).1.length:Int)) (ai (by (have hz:=Qd line; have hz0:=hz (Int.toNat 0); have hz1:=hz (Int.toNat 1); have hz2:=hz (Int.toNat 2); have hs:w15_.size=1:=rfl; (try simp only [Qn] at *); omega):(((((F40 line).1.getD (Int.toNat 0) default)++w15_).size+((F40 line).1.getD (Int.toNat 1) default).size:Nat):Int)≤9223372036854775807) (ai (by (have hz:=Qd line; have hz0:=hz (Int.toNat 0); have hz1:=hz (Int.toNat 1); have hz2:=hz (Int.toNat 2); have hs:w15_.size=1:=rfl; (try simp only [Qn] at *); omega):((((((F40 line).1.getD (Int.toNat 0) default)++w15_)++((F40 line).1.getD (Int.toNat 1) default)).size+w15_.size:Nat):Int)≤9223372036854775807) (ai (by (exact Jv _ (by assumption) (by assumption)):0≤(2:Int)∧(2:Int)<((F40 line).1.length:Int)) (ai (by (have hz:=Qd line; have hz0:=hz (Int.toNat 0); have hz1:=hz (Int.toNat 1); have hz2:=hz (Int.toNat 2); have hs:w15_.size=1:=rfl; (try simp only [Qn] at *); omega):(((((((F40 line).1.getD (Int.toNat 0) default)++w15_)++((F40 line).1.getD (Int.toNat 1) default))++w15_).size+((F40 line).1.getD (Int.toNat 2) default).size:Nat):Int)≤9223372036854775807) (fiS ((((((F40 line).1.getD (Int.toNat 0) default)++w15_)++((F40 line).1.getD (Int.toNat 1) default))++w15_)++((F40 line).1.getD (Int.toNat 2) default)) (F57 line) (condF h1 (condT h4 (condF h5 (condF h6 (condT h11 (condF h12 (condF h13 (condT h15 rfl)))))))))))))))) (fun h15=>fiS line (F57 line) (condF h1 (condT h4 (condF h5 (condF h6 (condT h11 (condF h12 (condF h13 (condF h15 rfl)))))))))))) (fun h11=>ifb (((F40 line).1.getD (Int.toNat 0) default).toList==w6_.toList) (fun h16=>ai (by (exact kix0 _ (by assumption)):0≤(0:Int)∧(0:Int)<((F40 line).1.length:Int)) (ai (by (have hz:=Qd line; have hz0:=hz (Int.toNat 0); have hz1:=hz (Int.toNat 1); have hz2:=hz (Int.toNat 2); have hs:w15_.size=1:=rfl; (try simp only [Qn] at *); omega):((((F40 line).1.getD (Int.toNat 0) default).size+w15_.size:Nat):Int)≤9223372036854775807) (ai (by (exact kix1 _ (by assumption)):0≤(1:Int)∧(1:Int)<((F40 line).1.length:Int)) (ai (by (have hz:=Qd line; have hz0:=hz (Int.toNat 0); have hz1:=hz (Int.toNat 1); have hz2:=hz (Int.toNat 2); have hs:w15_.size=1:=rfl; (try simp only [Qn] at *); omega):(((((F40 line).1.getD (Int.toNat 0) default)++w15_).size+((F40 line).1.getD (Int.toNat 1) default).size:Nat):Int)≤9223372036854775807) (fiS ((((F40 line).1.getD (Int.toNat 0) default)++w15_)++((F40 line).1.getD (Int.toNat 1) default)) (F57 line) (condF h1 (condT h4 (condF h5 (condF h6 (condF h11 (condT h16 rfl))))))))))) (fun h16=>ifb (((F40 line).1.getD (Int.toNat 0) default).toList==w9_.toList) (fun h17=>ifb (((F40 line).1.getD (Int.toNat 0) default).toList==w9_.toList) (fun h18=>ai (by (exact kix0 _ (by assumption)):0≤(0:Int)∧(0:Int)<((F40 line).1.length:Int)) (ai (by (have hz:=Qd line; have hz0:=hz (Int.toNat 0); have hz1:=hz (Int.toNat 1); have hz2:=hz (Int.toNat 2); have hs:w15_.size=1:=rfl; (try simp only [Qn] at *); omega):((((F40 line).1.getD (Int.toNat 0) default).size+w15_.size:Nat):Int)≤9223372036854775807) (ai (by (exact kix1 _ (by assumption)):0≤(1:Int)∧(1:Int)<((F40 line).1.length:Int)) (ai (by (have hz:=Qd line; have hz0:=hz (Int.toNat 0); have hz1:=hz (Int.toNat 1); have hz2:=hz (Int.toNat 2); have hs:w15_.size=1:=rfl; (try simp only [Qn] at *); omega):(((((F40 line).1.getD (Int.toNat 0) default)++w15_).size+((F40 line).1.getD (Int.toNat 1) default).size:Nat):Int)≤9223372036854775807) (ai (by (have hz:=Qd line; have hz0:=hz (Int.toNat 0); have hz1:=hz (Int.toNat 1); have hz2:=hz (Int.toNat 2); have hs:w15_.size=1:=rfl; (try simp only [Qn] at *); omega):((((((F40 line).1.getD (Int.toNat 0) default)++w15_)++((F40 line).1.getD (Int.toNat 1) default)).size+w15_.size:Nat):Int)≤9223372036854775807) (ai (by (exact Jz _ (by assumption) (by assumption)):0≤(2:Int)∧(2:Int)<((F40 line).1.length:Int)) (ai (by (have hz:=Qd line; have hz0:=hz (Int.toNat 0); have hz1:=hz (Int.toNat 1); have hz2:=hz (Int.toNat 2); have hs:w15_.size=1:=rfl; (try simp only [Qn] at *); omega):(((((((F40 line).1.getD (Int.toNat 0) default)++w15_)++((F40 line).1.getD (Int.toNat 1) default))++w15_).size+((F40 line).1.getD (Int.toNat 2) default).size:Nat):Int)≤9223372036854775807) (fiS ((((((F40 line).1.getD (Int.toNat 0) default)++w15_)++((F40 line).1.getD (Int.toNat 1) default))++w15_)++((F40 line).1.getD (Int.toNat 2) default)) (F57 line) (condF h1 (condT h4 (condF h5 (condF h6 (condF h11 (condF h16 (condT h17 (condT h18 rfl)))))))))))))))) (fun h18=>fiS line (F57 line) (condF h1 (condT h4 (condF h5 (condF h6 (condF h11 (condF h16 (condT h17 (condF h18 rfl)))))))))) (fun h17=>ifb (((F40 line).1.getD (Int.toNat 0) default).toList==w3_.toList) (fun h19=>ai (by (exact kix0 _ (by assumption)):0≤(0:Int)∧(0:Int)<((F40 line).1.length:Int)) (ai (by (have hz:=Qd line; have hz0:=hz (Int.toNat 0); have hz1:=hz (Int.toNat 1); have hz2:=hz (Int.toNat 2); have hs:w15_.size=1:=rfl; (try simp only [Qn] at *); omega):((((F40 line).1.getD (Int.toNat 0) default).size+w15_.size:Nat):Int)≤9223372036854775807) (ai (by (exact kix1 _ (by assumption)):0≤(1:Int)∧(1:Int)<((F40 line).1.length:Int)) (ai (by (have hz:=Qd line; have hz0:=hz (Int.toNat 0); have hz1:=hz (Int.toNat 1); have hz2:=hz (Int.toNat 2); have hs:w15_.size=1:=rfl; (try simp only [Qn] at *); omega):(((((F40 line).1.getD (Int.toNat 0) default)++w15_).size+((F40 line).1.getD (Int.toNat 1) default).size:Nat):Int)≤9223372036854775807) (ai (by (have hz:=Qd line; have hz0:=hz (Int.toNat 0); have hz1:=hz (Int.toNat 1); have hz2:=hz (Int.toNat 2); have hs:w15_.size=1:=rfl; (try simp only [Qn] at *); omega):((((((F40 line).1.getD (Int.toNat 0) default)++w15_)++((F40 line).1.getD (Int.toNat 1) default)).size+w15_.size:Nat):Int)≤9223372036854775807) (ai (by (exact Jv _ (by assumption) (by assumption)):0≤(2:Int)∧(2:Int)<((F40 line).1.length:Int)) (ai (by (have hz:=Qd line; have hz0:=hz (Int.toNat 0); have hz1:=hz (Int.toNat 1); have hz2:=hz (Int.toNat 2); have hs:w15_.size=1:=rfl; (try simp only [Qn] at *); omega):(((((((F40 line).1.getD (Int.toNat 0) default)++w15_)++((F40 line).1.getD (Int.toNat 1) default))++w15_).size+((F40 line).1.getD (Int.toNat 2) default).size:Nat):Int)≤9223372036854775807) (fiS ((((((F40 line).1.getD (Int.toNat 0) default)++w15_)++((F40 line).1.getD (Int.toNat 1) default))++w15_)++((F40 line).1.getD (Int.toNat 2) default)) (F57 line) (condF h1 (condT h4 (condF h5 (condF h6 (condF h11 (condF h16 (condF h17 (condT h19 rfl)))))))))))))))) (fun h19=>fiS line (F57 line) (condF h1 (condT h4 (condF h5 (condF h6 (condF h11 (condF h16 (condF h17 (condF h19 rfl))))))))))))))) (fun h4=>ifb (((F40 line).1.getD (Int.toNat 0) default).toList==w5_.toList) (fun h20=>ai (by (exact kix0 _ (by assumption)):0≤(0:Int)∧(0:Int)<((F40 line).1.length:Int)) (fiS ((F40 line).1.getD (Int.toNat 0) default) (F57 line) (condF h1 (condF h4 (condT h20 rfl))))) (fun h20=>ifb (((F40 line).1.getD (Int.toNat 0) default).toList==w10_.toList) (fun h21=>ifb (((F40 line).1.getD (Int.toNat 0) default).toList==w10_.toList) (fun h22=>ai (by (exact kix0 _ (by assumption)):0≤(0:Int)∧(0:Int)<((F40 line).1.length:Int)) (ai (by (have hz:=Qd line; have hz0:=hz (Int.toNat 0); have hz1:=hz (Int.toNat 1); have hz2:=hz (Int.toNat 2); have hs:w15_.size=1:=rfl; (try simp only [Qn] at *); omega):((((F40 line).1.getD (Int.toNat 0) default).size+w15_.size:Nat):Int)≤9223372036854775807) (ai (by (exact kix1 _ (by assumption)):0≤(1:Int)∧(1:Int)<((F40 line).1.length:Int)) (ai (by (have hz:=Qd line; have hz0:=hz (Int.toNat 0); have hz1:=hz (Int.toNat 1); have hz2:=hz (Int.toNat 2); have hs:w15_.size=1:=rfl; (try simp only [Qn] at *); omega):(((((F40 line).1.getD (Int.toNat 0) default)++w15_).size+((F40 line).1.getD (Int.toNat 1) default).size:Nat):Int)≤9223372036854775807) (fiS ((((F40 line).1.getD (Int.toNat 0) default)++w15_)++((F40 line).1.getD (Int.toNat 1) default)) (F57 line) (condF h1 (condF h4 (condF h20 (condT h21 (condT h22 rfl)))))))))) (fun h22=>ifb (((F40 line).1.getD (Int.toNat 0) default).toList==w9_.toList) (fun h23=>ifb (((F40 line).1.getD (Int.toNat 0) default).toList==w9_.toList) (fun h24=>ai (by (exact kix0 _ (by assumption)):0≤(0:Int)∧(0:Int)<((F40 line).1.length:Int)) (ai (by (have hz:=Qd line; have hz0:=hz (Int.toNat 0); have hz1:=hz (Int.toNat 1); have hz2:=hz (Int.toNat 2); have hs:w15_.size=1:=rfl; (try simp only [Qn] at *); omega):((((F40 line).1.getD (Int.toNat 0) default).size+w15_.size:Nat):Int)≤9223372036854775807) (ai (by (exact kix1 _ (by assumption)):0≤(1:Int)∧(1:Int)<((F40 line).1.length:Int)) (ai (by (have hz:=Qd line; have hz0:=hz (Int.toNat 0); have hz1:=hz (Int.toNat 1); have hz2:=hz (Int.toNat 2); have hs:w15_.size=1:=rfl; (try simp only [Qn] at *); omega):(((((F40 line).1.getD (Int.toNat 0) default)++w15_).size+((F40 line).1.getD (Int.toNat 1) default).size:Nat):Int)≤9223372036854775807) (ai (by (have hz:=Qd line; have hz0:=hz (Int.toNat 0); have hz1:=hz (Int.toNat 1); have hz2:=hz (Int.toNat 2); have hs:w15_.size=1:=rfl; (try simp only [Qn] at *); omega):((((((F40 line).1.getD (Int.toNat 0) default)++w15_)++((F40 line).1.getD (Int.toNat 1) default)).size+w15_.size:Nat):Int)≤9223372036854775807) (ai (by (exact Jz _ (by assumption) (by assumption)):0≤(2:Int)∧(2:Int)<((F40 line).1.length:Int)) (ai (by (have hz:=Qd line; have hz0:=hz (Int.toNat 0); have hz1:=hz (Int.toNat 1); have hz2:=hz (Int.toNat 2); have hs:w15_.size=1:=rfl; (try simp only [Qn] at *); omega):(((((((F40 line).1.getD (Int.toNat 0) default)++w15_)++((F40 line).1.getD (Int.toNat 1) default))++w15_).size+((F40 line).1.getD (Int.toNat 2) default).size:Nat):Int)≤9223372036854775807) (fiS ((((((F40 line).1.getD (Int.toNat 0) default)++w15_)++((F40 line).1.getD (Int.toNat 1) default))++w15_)++((F40 line).1.getD (Int.toNat 2) default)) (F57 line) (condF h1 (condF h4 (condF h20 (condT h21 (condF h22 (condT h23 (condT h24 rfl))))))))))))))) (fun h24=>fiS line (F57 line) (condF h1 (condF h4 (condF h20 (condT h21 (condF h22 (condT h23 (condF h24 rfl))))))))) (fun h23=>ifb (((F40 line).1.getD (Int.toNat 0) default).toList==w3_.toList) (fun h25=>ai (by (exact kix0 _ (by assumption)):0≤(0:Int)∧(0:Int)<((F40 line).1.length:Int)) (ai (by (have hz:=Qd line; have hz0:=hz (Int.toNat 0); have hz1:=hz (Int.toNat 1); have hz2:=hz (Int.toNat 2); have hs:w15_.size=1:=rfl; (try simp only [Qn] at *); omega):((((F40 line).1.getD (Int.toNat 0) default).size+w15_.size:Nat):Int)≤9223372036854775807) (ai (by (exact kix1 _ (by assumption)):0≤(1:Int)∧(1:Int)<((F40 line).1.length:Int)) (ai (by (have hz:=Qd line; have hz0:=hz (Int.toNat 0); have hz1:=hz (Int.toNat 1); have hz2:=hz (Int.toNat 2); have hs:w15_.size=1:=rfl; (try simp only [Qn] at *); omega):(((((F40 line).1.getD (Int.toNat 0) default)++w15_).size+((F40 line).1.getD (Int.toNat 1) default).size:Nat):Int)≤9223372036854775807) (ai (by (have hz:=Qd line; have hz0:=hz (Int.toNat 0); have hz1:=hz (Int.toNat 1); have hz2:=hz (Int.toNat 2); have hs:w15_.size=1:=rfl; (try simp only [Qn] at *); omega):((((((F40 line).1.getD (Int.toNat 0) default)++w15_)++((F40 line).1.getD (Int.toNat 1) default)).size+w15_.size:Nat):Int)≤9223372036854775807) (ai (by (exact Jv _ (by assumption) (by assumption)):0≤(2:Int)∧(2:Int)<((F40 line).1.length:Int)) (ai (by (have hz:=Qd line; have hz0:=hz (Int.toNat 0); have hz1:=hz (Int.toNat 1); have hz2:=hz (Int.toNat 2); have hs:w15_.size=1:=rfl; (try simp only [Qn] at *); omega):(((((((F40 line).1.getD (Int.toNat 0) default)++w15_)++((F40 line).1.getD (Int.toNat 1) default))++w15_).size+((F40 line).1.getD (Int.toNat 2) default).size:Nat):Int)≤9223372036854775807) (fiS ((((((F40 line).1.getD (Int.toNat 0) default)++w15_)++((F40 line).1.getD (Int.toNat 1) default))++w15_)++((F40 line).1.getD (Int.toNat 2) default)) (F57 line) (condF h1 (condF h4 (condF h20 (condT h21 (condF h22 (condF h23 (condT h25 rfl))))))))))))))) (fun h25=>fiS line (F57 line) (condF h1 (condF h4 (condF h20 (condT h21 (condF h22 (condF h23 (condF h25 rfl))))))))))) (fun h21=>ifb (((F40 line).1.getD (Int.toNat 0) default).toList==w7_.toList) (fun h26=>ifb (((F40 line).1.getD (Int.toNat 0) default).toList==w7_.toList) (fun h27=>ai (by (exact kix0 _ (by assumption)):0≤(0:Int)∧(0:Int)<((F40 line).1.length:Int)) (ai (by (have hz:=Qd line; have hz0:=hz (Int.toNat 0); have hz1:=hz (Int.toNat 1); have hz2:=hz (Int.toNat 2); have hs:w15_.size=1:=rfl; (try simp only [Qn] at *); omega):((((F40 line).1.getD (Int.toNat 0) default).size+w15_.size:Nat):Int)≤9223372036854775807) (ai (by (exact kix1 _ (by assumption)):0≤(1:Int)∧(1:Int)<((F40 line).1.length:Int)) (ai (by (have hz:=Qd line; have hz0:=hz (Int.toNat 0); have hz1:=hz (Int.toNat 1); have hz2:=hz (Int.toNat 2); have hs:w15_.size=1:=rfl; (try simp only [Qn] at *); omega):(((((F40 line).1.getD (Int.toNat 0) default)++w15_).size+((F40 line).1.getD (Int.toNat 1) default).size:Nat):Int)≤9223372036854775807) (fiS ((((F40 line).1.getD (Int.toNat 0) default)++w15_)++((F40 line).1.getD (Int.toNat 1) default)) (F57 line) (condF h1 (condF h4 (condF h20 (condF h21 (condT h26 (condT h27 rfl))))))))))) (fun h27=>ifb (((F40 line).1.getD (Int.toNat 0) default).toList==w9_.toList) (fun h28=>ifb (((F40 line).1.getD (Int.toNat 0) default).toList==w9_.toList) (fun h29=>ai (by (exact kix0 _ (by assumption)):0≤(0:Int)∧(0:Int)<((F40 line).1.length:Int)) (ai (by (have hz:=Qd line; have hz0:=hz (Int.toNat 0); have hz1:=hz (Int.toNat 1); have hz2:=hz (Int.toNat 2); have hs:w15_.size=1:=rfl; (try simp only [Qn] at *); omega):((((F40 line).1.getD (Int.toNat 0) default).size+w15_.size:Nat):Int)≤9223372036854775807) (ai (by (exact kix1 _ (by assumption)):0≤(1:Int)∧(1:Int)<((F40 line).1.length:Int)) (ai (by (have hz:=Qd line; have hz0:=hz (Int.toNat 0); have hz1:=hz (Int.toNat 1); have hz2:=hz (Int.toNat 2); have hs:w15_.size=1:=rfl; (try simp only [Qn] at *); omega):(((((F40 line).1.getD (Int.toNat 0) default)++w15_).size+((F40 line).1.getD (Int.toNat 1) default).size:Nat):Int)≤9223372036854775807) (ai (by (have hz:=Qd line; have hz0:=hz (Int.toNat 0); have hz1:=hz (Int.toNat 1); have hz2:=hz (Int.toNat 2); have hs:w15_.size=1:=rfl; (try simp only [Qn] at *); omega):((((((F40 line).1.getD (Int.toNat 0) default)++w15_)++((F40 line).1.getD (Int.toNat 1) default)).size+w15_.size:Nat):Int)≤9223372036854775807) (ai (by (exact Jz _ (by assumption) (by assumption)):0≤(2:Int)∧(2:Int)<((F40 line).1.length:Int)) (ai (by (have hz:=Qd line; have hz0:=hz (Int.toNat 0); have hz1:=hz (Int.toNat 1); have hz2:=hz (Int.toNat 2); have hs:w15_.size=1:=rfl; (try simp only [Qn] at *); omega):(((((((F40 line).1.getD (Int.toNat 0) default)++w15_)++((F40 line).1.getD (Int.toNat 1) default))++w15_).size+((F40 line).1.getD (Int.toNat 2) default).size:Nat):Int)≤9223372036854775807) (fiS ((((((F40 line).1.getD (Int.toNat 0) default)++w15_)++((F40 line).1.getD (Int.toNat 1) default))++w15_)++((F40 line).1.getD (Int.toNat 2) default)) (F57 line) (condF h1 (condF h4 (condF h20 (condF h21 (condT h26 (condF h27 (condT h28 (condT h29 rfl)))))))))))))))) (fun h29=>fiS line (F57 line) (condF h1 (condF h4 (condF h20 (condF h21 (condT h26 (condF h27 (condT h28 (condF h29 rfl)))))))))) (fun h28=>ifb (((F40 line).1.getD (Int.toNat 0) default).toList==w3_.toList) (fun h30=>ai (by (exact kix0 _ (by assumption)):0≤(0:Int)∧(0:Int)<((F40 line).1.length:Int)) (ai (by (have hz:=Qd line; have hz0:=hz (Int.toNat 0); have hz1:=hz (Int.toNat 1); have hz2:=hz (Int.toNat 2); have hs:w15_.size=1:=rfl; (try simp only [Qn] at *); omega):((((F40 line).1.getD (Int.toNat 0) default).size+w15_.size:Nat):Int)≤9223372036854775807) (ai (by (exact kix1 _ (by assumption)):0≤(1:Int)∧(1:Int)<((F40 line).1.length:Int)) (ai (by (have hz:=Qd line; have hz0:=hz (Int.toNat 0); have hz1:=hz (Int.toNat 1); have hz2:=hz (Int.toNat 2); have hs:w15_.size=1:=rfl; (try simp only [Qn] at *); omega):(((((F40 line).1.getD (Int.toNat 0) default)++w15_).size+((F40 line).1.getD (Int.toNat 1) default).size:Nat):Int)≤9223372036854775807) (ai (by (have hz:=Qd line; have hz0:=hz (Int.toNat 0); have hz1:=hz (Int.toNat 1); have hz2:=hz (Int.toNat 2); have hs:w15_.size=1:=rfl; (try simp only [Qn] at *); omega):((((((F40 line).1.getD (Int.toNat 0) default)++w15_)++((F40 line).1.getD (Int.toNat 1) default)).size+w15_.size:Nat):Int)≤9223372036854775807) (ai (by (exact Jv _ (by assumption) (by assumption)):0≤(2:Int)∧(2:Int)<((F40 line).1.length:Int)) (ai (by (have hz:=Qd line; have hz0:=hz (Int.toNat 0); have hz1:=hz (Int.toNat 1); have hz2:=hz (Int.toNat 2); have hs:w15_.size=1:=rfl; (try simp only [Qn] at *); omega):(((((((F40 line).1.getD (Int.toNat 0) default)++w15_)++((F40 line).1.getD (Int.toNat 1) default))++w15_).size+((F40 line).1.getD (Int.toNat 2) default).size:Nat):Int)≤9223372036854775807) (fiS ((((((F40 line).1.getD (Int.toNat 0) default)++w15_)++((F40 line).1.getD (Int.toNat 1) default))++w15_)++((F40 line).1.getD (Int.toNat 2) default)) (F57 line) (condF h1 (condF h4 (condF h20 (condF h21 (condT h26 (condF h27 (condF h28 (condT h30 rfl)))))))))))))))) (fun h30=>fiS line (F57 line) (condF h1 (condF h4 (condF h20 (condF h21 (condT h26 (condF h27 (condF h28 (condF h30 rfl)))))))))))) (fun h26=>ifb (((F40 line).1.getD (Int.toNat 0) default).toList==w6_.toList) (fun h31=>ai (by (exact kix0 _ (by assumption)):0≤(0:Int)∧(0:Int)<((F40 line).1.length:Int)) (ai (by (have hz:=Qd line; have hz0:=hz (Int.toNat 0); have hz1:=hz (Int.toNat 1); have hz2:=hz (Int.toNat 2); have hs:w15_.size=1:=rfl; (try simp only [Qn] at *); omega):((((F40 line).1.getD (Int.toNat 0) default).size+w15_.size:Nat):Int)≤9223372036854775807) (ai (by (exact kix1 _ (by assumption)):0≤(1:Int)∧(1:Int)<((F40 line).1.length:Int)) (ai (by (have hz:=Qd line; have hz0:=hz (Int.toNat 0); have hz1:=hz (Int.toNat 1); have hz2:=hz (Int.toNat 2); have hs:w15_.size=1:=rfl; (try simp only [Qn] at *); omega):(((((F40 line).1.getD (Int.toNat 0) default)++w15_).size+((F40 line).1.getD (Int.toNat 1) default).size:Nat):Int)≤9223372036854775807) (fiS ((((F40 line).1.getD (Int.toNat 0) default)++w15_)++((F40 line).1.getD (Int.toNat 1) default)) (F57 line) (condF h1 (condF h4 (condF h20 (condF h21 (condF h26 (condT h31 rfl))))))))))) (fun h31=>ifb (((F40 line).1.getD (Int.toNat 0) default).toList==w9_.toList) (fun h32=>ifb (((F40 line).1.getD (Int.toNat 0) default).toList==w9_.toList) (fun h33=>ai (by (exact kix0 _ (by assumption)):0≤(0:Int)∧(0:Int)<((F40 line).1.length:Int)) (ai (by (have hz:=Qd line; have hz0:=hz (Int.toNat 0); have hz1:=hz (Int.toNat 1); have hz2:=hz (Int.toNat 2); have hs:w15_.size=1:=rfl; (try simp only [Qn] at *); omega):((((F40 line).1.getD (Int.toNat 0) default).size+w15_.size:Nat):Int)≤9223372036854775807) (ai (by (exact kix1 _ (by assumption)):0≤(1:Int)∧(1:Int)<((F40 line).1.length:Int)) (ai (by (have hz:=Qd line; have hz0:=hz (Int.toNat 0); have hz1:=hz (Int.toNat 1); have hz2:=hz (Int.toNat 2); have hs:w15_.size=1:=rfl; (try simp only [Qn] at *); omega):(((((F40 line).1.getD (Int.toNat 0) default)++w15_).size+((F40 line).1.getD (Int.toNat 1) default).size:Nat):Int)≤9223372036854775807) (ai (by (have hz:=Qd line; have hz0:=hz (Int.toNat 0); have hz1:=hz (Int.toNat 1); have hz2:=hz (Int.toNat 2); have hs:w15_.size=1:=rfl; (try simp only [Qn] at *); omega):((((((F40 line).1.getD (Int.toNat 0) default)++w15_)++((F40 line).1.getD (Int.toNat 1) default)).size+w15_.size:Nat):Int)≤9223372036854775807) (ai (by (exact Jz _ (by assumption) (by assumption)):0≤(2:Int)∧(2:Int)<((F40 line).1.length:Int)) (ai (by (have hz:=Qd line; have hz0:=hz (Int.toNat 0); have hz1:=hz (Int.toNat 1); have hz2:=hz (Int.toNat 2); have hs:w15_.size=1:=rfl; (try simp only [Qn] at *); omega):(((((((F40 line).1.getD (Int.toNat 0) default)++w15_)++((F40 line).1.getD (Int.toNat 1) default))++w15_).size+((F40 line).1.getD (Int.toNat 2) default).size:Nat):Int)≤9223372036854775807) (fiS ((((((F40 line).1.getD (Int.toNat 0) default)++w15_)++((F40 line).1.getD (Int.toNat 1) default))++w15_)++((F40 line).1.getD (Int.toNat 2) default)) (F57 line) (condF h1 (condF h4 (condF h20 (condF h21 (condF h26 (condF h31 (condT h32 (condT h33 rfl)))))))))))))))) (fun h33=>fiS line (F57 line) (condF h1 (condF h4 (condF h20 (condF h21 (condF h26 (condF h31 (condT h32 (condF h33 rfl)))))))))) (fun h32=>ifb (((F40 line).1.getD (Int.toNat 0) default).toList==w3_.toList) (fun h34=>ai (by (exact kix0 _ (by assumption)):0≤(0:Int)∧(0:Int)<((F40 line).1.length:Int)) (ai (by (have hz:=Qd line; have hz0:=hz (Int.toNat 0); have hz1:=hz (Int.toNat 1); have hz2:=hz (Int.toNat 2); have hs:w15_.size=1:=rfl; (try simp only [Qn] at *); omega):((((F40 line).1.getD (Int.toNat 0) default).size+w15_.size:Nat):Int)≤9223372036854775807) (ai (by (exact kix1 _ (by assumption)):0≤(1:Int)∧(1:Int)<((F40 line).1.length:Int)) (ai (by (have hz:=Qd line; have hz0:=hz (Int.toNat 0); have hz1:=hz (Int.toNat 1); have hz2:=hz (Int.toNat 2); have hs:w15_.size=1:=rfl; (try simp only [Qn] at *); omega):(((((F40 line).1.getD (Int.toNat 0) default)++w15_).size+((F40 line).1.getD (Int.toNat 1) default).size:Nat):Int)≤9223372036854775807) (ai (by (have hz:=Qd line; have hz0:=hz (Int.toNat 0); have hz1:=hz (Int.toNat 1); have hz2:=hz (Int.toNat 2); have hs:w15_.size=1:=rfl; (try simp only [Qn] at *); omega):((((((F40 line).1.getD (Int.toNat 0) default)++w15_)++((F40 line).1.getD (Int.toNat 1) default)).size+w15_.size:Nat):Int)≤9223372036854775807) (ai (by (exact Jv _ (by assumption) (by assumption)):0≤(2:Int)∧(2:Int)<((F40 line).1.length:Int)) (ai (by (have hz:=Qd line; have hz0:=hz (Int.toNat 0); have hz1:=hz (Int.toNat 1); have hz2:=hz (Int.toNat 2); have hs:w15_.size=1:=rfl; (try simp only [Qn] at *); omega):(((((((F40 line).1.getD (Int.toNat 0) default)++w15_)++((F40 line).1.getD (Int.toNat 1) default))++w15_).size+((F40 line).1.getD (Int.toNat 2) default).size:Nat):Int)≤9223372036854775807) (fiS ((((((F40 line).1.getD (Int.toNat 0) default)++w15_)++((F40 line).1.getD (Int.toNat 1) default))++w15_)++((F40 line).1.getD (Int.toNat 2) default)) (F57 line) (condF h1 (condF h4 (condF h20 (condF h21 (condF h26 (condF h31 (condF h32 (condT h34 rfl)))))))))))))))) (fun h34=>fiS line (F57 line) (condF h1 (condF h4 (condF h20 (condF h21 (condF h26 (condF h31 (condF h32 (condF h34 rfl)))))))))))))))))))) (by kernel_rfl)
theorem join1 (a sp:ByteArray):Ys [a] sp=a:=Vj (by show Lib.join _ _=_; exact Lib.join_one _ _)
theorem Hh (ws:List ByteArray) (sp:ByteArray):(Ys ws sp).data.toList=Lib.join (ws.map (·.data.toList)) sp.data.toList:=rfl
theorem Quh (a b sp:ByteArray):Ys [a,b] sp=(a++sp)++b:=Vj (by
 rw [Hh,List.map_cons,Lib.join_cons]
 simp [Lib.joinTail,ByteArray.data_append,Array.toList_append,List.append_assoc])
theorem join3 (a b c sp:ByteArray):Ys [a,b,c] sp=(((a++sp)++b)++sp)++c:=Vj (by
 rw [Hh,List.map_cons,Lib.join_cons]
 simp [Lib.joinTail,ByteArray.data_append,Array.toList_append,List.append_assoc])
theorem Qiw (w:List ByteArray) (h:1≤w.length):w.take 1=[w.getD 0 default]:=by
 match w,h with
 | a :: _,_=>rfl
theorem Qbm (w:List ByteArray) (h:2≤w.length):w.take 2=[w.getD 0 default,w.getD 1 default]:=by
 match w,h with
 | a :: b :: _,_=>rfl
theorem Ef (w:List ByteArray) (h:3≤w.length):w.take 3=[w.getD 0 default,w.getD 1 default,w.getD 2 default]:=by
 match w,h with
 | a :: b :: c :: _,_=>rfl
theorem Qyd (line:ByteArray) (h:F77 line=true):F57 line=Ys ((F40 line).1.take (keyN (((F40 line).1.getD 0 default).data.toList)).toNat) (⟨#[32]⟩:ByteArray):=by
 have hk:=Gr line h
 have hj:=hk.joins
 unfold F57
 have e0:(F40 line).1.getD (Int.toNat 0) default=(F40 line).1.getD 0 default:=rfl
 have e1:(F40 line).1.getD (Int.toNat 1) default=(F40 line).1.getD 1 default:=rfl
 have e2:(F40 line).1.getD (Int.toNat 2) default=(F40 line).1.getD 2 default:=rfl
 simp only [h,Bool.not_true,cond_false,e0,e1,e2,blit]
 have hf:=hk.form
 generalize (F40 line).1=w at hf hj
 rcases hf with hf | hf | hf | hf | hf | hf | hf | hf
 ·have h0:=hf.1
  have hn:keyN (w.getD 0 default).data.toList=1:=by rw [h0]; decide
  have hl:2≤w.length:=by unfold Qdy at hf; omega
  rw [hn,show ((1:Int).toNat)=1 from rfl]
  simp only [h0,show (([104,111,115,116]:List UInt8)==([104,111,115,116]:List UInt8))=true from by decide ,show (([104,111,115,116]:List UInt8)==([117,115,101,114]:List UInt8))=false from by decide ,show (([104,111,115,116]:List UInt8)==([112,111,114,116]:List UInt8))=false from by decide ,show (([104,111,115,116]:List UInt8)==([114,117,108,101]:List UInt8))=false from by decide ,show (([104,111,115,116]:List UInt8)==([114,111,117,116,101]:List UInt8))=false from by decide ,show (([104,111,115,116]:List UInt8)==([112,101,101,114]:List UInt8))=false from by decide ,show (([104,111,115,116]:List UInt8)==([110,97,116]:List UInt8))=false from by decide ,show (([104,111,115,116]:List UInt8)==([100,111,111,114]:List UInt8))=false from by decide,cond_true,cond_false]
  rw [Qiw w (by omega),join1]
 ·have h0:=hf.1
  have hn:keyN (w.getD 0 default).data.toList=2:=by rw [h0]; decide
  have hl:2≤w.length:=by unfold Wf at hf; omega
  rw [hn,show ((2:Int).toNat)=2 from rfl]
  simp only [h0,show (([117,115,101,114]:List UInt8)==([104,111,115,116]:List UInt8))=false from by decide ,show (([117,115,101,114]:List UInt8)==([117,115,101,114]:List UInt8))=true from by decide ,show (([117,115,101,114]:List UInt8)==([112,111,114,116]:List UInt8))=false from by decide ,show (([117,115,101,114]:List UInt8)==([114,117,108,101]:List UInt8))=false from by decide ,show (([117,115,101,114]:List UInt8)==([114,111,117,116,101]:List UInt8))=false from by decide ,show (([117,115,101,114]:List UInt8)==([112,101,101,114]:List UInt8))=false from by decide ,show (([117,115,101,114]:List UInt8)==([110,97,116]:List UInt8))=false from by decide ,show (([117,115,101,114]:List UInt8)==([100,111,111,114]:List UInt8))=false from by decide,cond_true,cond_false]
  rw [Qbm w (by omega),Quh]
 ·have h0:=hf.1
  have hn:keyN (w.getD 0 default).data.toList=2:=by rw [h0]; decide
  have hl:2≤w.length:=by unfold Zv at hf; omega
  rw [hn,show ((2:Int).toNat)=2 from rfl]
  simp only [h0,show (([112,111,114,116]:List UInt8)==([104,111,115,116]:List UInt8))=false from by decide ,show (([112,111,114,116]:List UInt8)==([117,115,101,114]:List UInt8))=false from by decide ,show (([112,111,114,116]:List UInt8)==([112,111,114,116]:List UInt8))=true from by decide ,show (([112,111,114,116]:List UInt8)==([114,117,108,101]:List UInt8))=false from by decide ,show (([112,111,114,116]:List UInt8)==([114,111,117,116,101]:List UInt8))=false from by decide ,show (([112,111,114,116]:List UInt8)==([112,101,101,114]:List UInt8))=false from by decide ,show (([112,111,114,116]:List UInt8)==([110,97,116]:List UInt8))=false from by decide ,show (([112,111,114,116]:List UInt8)==([100,111,111,114]:List UInt8))=false from by decide,cond_true,cond_false]
  rw [Qbm w (by omega),Quh]
 ·have h0:=hf.1
  have hn:keyN (w.getD 0 default).data.toList=3:=by rw [h0]; decide
  have hl:3≤w.length:=by unfold Ks at hf; omega
  rw [hn,show ((3:Int).toNat)=3 from rfl]
  simp only [h0,show (([114,117,108,101]:List UInt8)==([104,111,115,116]:List UInt8))=false from by decide ,show (([114,117,108,101]:List UInt8)==([117,115,101,114]:List UInt8))=false from by decide ,show (([114,117,108,101]:List UInt8)==([112,111,114,116]:List UInt8))=false from by decide ,show (([114,117,108,101]:List UInt8)==([114,117,108,101]:List UInt8))=true from by decide ,show (([114,117,108,101]:List UInt8)==([114,111,117,116,101]:List UInt8))=false from by decide ,show (([114,117,108,101]:List UInt8)==([112,101,101,114]:List UInt8))=false from by decide ,show (([114,117,108,101]:List UInt8)==([110,97,116]:List UInt8))=false from by decide ,show (([114,117,108,101]:List UInt8)==([100,111,111,114]:List UInt8))=false from by decide,cond_true,cond_false]
  rw [Ef w (by omega),join3]
 ·have h0:=hf.1
  have hn:keyN (w.getD 0 default).data.toList=3:=by rw [h0]; decide
  have hl:3≤w.length:=by unfold Jo at hf; omega
  rw [hn,show ((3:Int).toNat)=3 from rfl]
  simp only [h0,show (([114,111,117,116,101]:List UInt8)==([104,111,115,116]:List UInt8))=false from by decide ,show (([114,111,117,116,101]:List UInt8)==([117,115,101,114]:List UInt8))=false from by decide ,show (([114,111,117,116,101]:List UInt8)==([112,111,114,116]:List UInt8))=false from by decide ,show (([114,111,117,116,101]:List UInt8)==([114,117,108,101]:List UInt8))=false from by decide ,show (([114,111,117,116,101]:List UInt8)==([114,111,117,116,101]:List UInt8))=true from by decide ,show (([114,111,117,116,101]:List UInt8)==([112,101,101,114]:List UInt8))=false from by decide ,show (([114,111,117,116,101]:List UInt8)==([110,97,116]:List UInt8))=false from by decide ,show (([114,111,117,116,101]:List UInt8)==([100,111,111,114]:List UInt8))=false from by decide,cond_true,cond_false]
  rw [List.take_of_length_le (by unfold Jo at hf; omega)]
  exact hj.symm
 ·have h0:=hf.1
  have hn:keyN (w.getD 0 default).data.toList=2:=by rw [h0]; decide
  have hl:2≤w.length:=by unfold Hq at hf; omega
  rw [hn,show ((2:Int).toNat)=2 from rfl]
  simp only [h0,show (([112,101,101,114]:List UInt8)==([104,111,115,116]:List UInt8))=false from by decide ,show (([112,101,101,114]:List UInt8)==([117,115,101,114]:List UInt8))=false from by decide ,show (([112,101,101,114]:List UInt8)==([112,111,114,116]:List UInt8))=false from by decide ,show (([112,101,101,114]:List UInt8)==([114,117,108,101]:List UInt8))=false from by decide ,show (([112,101,101,114]:List UInt8)==([114,111,117,116,101]:List UInt8))=false from by decide ,show (([112,101,101,114]:List UInt8)==([112,101,101,114]:List UInt8))=true from by decide ,show (([112,101,101,114]:List UInt8)==([110,97,116]:List UInt8))=false from by decide ,show (([112,101,101,114]:List UInt8)==([100,111,111,114]:List UInt8))=false from by decide,cond_true,cond_false]
  rw [Qbm w (by omega),Quh]
 ·have h0:=hf.1
  have hn:keyN (w.getD 0 default).data.toList=1:=by rw [h0]; decide
  have hl:2≤w.length:=by unfold natP at hf; omega
  rw [hn,show ((1:Int).toNat)=1 from rfl]
  simp only [h0,show (([110,97,116]:List UInt8)==([104,111,115,116]:List UInt8))=false from by decide ,show (([110,97,116]:List UInt8)==([117,115,101,114]:List UInt8))=false from by decide ,show (([110,97,116]:List UInt8)==([112,111,114,116]:List UInt8))=false from by decide ,show (([110,97,116]:List UInt8)==([114,117,108,101]:List UInt8))=false from by decide ,show (([110,97,116]:List UInt8)==([114,111,117,116,101]:List UInt8))=false from by decide ,show (([110,97,116]:List UInt8)==([112,101,101,114]:List UInt8))=false from by decide ,show (([110,97,116]:List UInt8)==([110,97,116]:List UInt8))=true from by decide ,show (([110,97,116]:List UInt8)==([100,111,111,114]:List UInt8))=false from by decide,cond_true,cond_false]
  rw [Qiw w (by omega),join1]
 ·have h0:=hf.1
  have hn:keyN (w.getD 0 default).data.toList=3:=by rw [h0]; decide
  have hl:3≤w.length:=by unfold Kr at hf; omega
  rw [hn,show ((3:Int).toNat)=3 from rfl]
  simp only [h0,show (([100,111,111,114]:List UInt8)==([104,111,115,116]:List UInt8))=false from by decide ,show (([100,111,111,114]:List UInt8)==([117,115,101,114]:List UInt8))=false from by decide ,show (([100,111,111,114]:List UInt8)==([112,111,114,116]:List UInt8))=false from by decide ,show (([100,111,111,114]:List UInt8)==([114,117,108,101]:List UInt8))=false from by decide ,show (([100,111,111,114]:List UInt8)==([114,111,117,116,101]:List UInt8))=false from by decide ,show (([100,111,111,114]:List UInt8)==([112,101,101,114]:List UInt8))=false from by decide ,show (([100,111,111,114]:List UInt8)==([110,97,116]:List UInt8))=false from by decide ,show (([100,111,111,114]:List UInt8)==([100,111,111,114]:List UInt8))=true from by decide,cond_true,cond_false]
  rw [Ef w (by omega),join3]
theorem Qtz (line:ByteArray):F82 line=F57 line:=by
 cases h:F77 line with
 | false =>
  unfold F82 F57
  rw [Vb,h]; rfl
 | true =>
  rw [Qyd line h]
  obtain ⟨k1,k2⟩:=Nd line h
  unfold F82
  rw [Vb,h,k1,k2]; rfl
theorem Qdo {α σ ρ τ ω:Type} [Inhabited α] (xs:List α) (upd:σ→α→σ) (emb:σ→Int→ω) (step:ω→Lp ω ρ)
  (h1:∀ (i:Nat) (s:σ),i<xs.length→step (emb s (i:Int))=.next (emb (upd s (xs.getD i default)) ((i+1:Nat):Int))) (h2:∀ s:σ,step (emb s (xs.length:Int))=.done (emb s (xs.length:Int)))
  (f:ρ→τ) (g:ω→τ):∀ (m i:Nat) (s:σ),i+m=xs.length→∀ fuel,m<fuel→(runL step fuel (emb s (i:Int))).fin f g=g (emb ((xs.drop i).foldl upd s) (xs.length:Int))
 | m,i,_,_,0,hf=>absurd hf (Nat.not_lt_zero _)
 | 0,i,s,h,fuel+1,hf=>by
  obtain rfl:i=xs.length:=by omega
  rw [Km _ (h2 s),List.drop_of_length_le (Nat.le_refl _)]; rfl
 | m+1,i,s,h,fuel+1,hf=>by
  have hd:xs.drop i=xs.getD i default :: xs.drop (i+1):=by
   rw [List.drop_eq_getElem_cons (show i<xs.length by omega),List.getD_eq_getElem?_getD,List.getElem?_eq_getElem (show i<xs.length by omega)]; rfl
  rw [Ya _ (h1 i s (by omega)),Qdo xs upd emb step h1 h2 f g m (i+1) _ (by omega) fuel (by omega),hd,List.foldl_cons]
theorem Uz {α σ ρ τ ω:Type} [Inhabited α] (xs:List α) (upd:σ→α→σ) (emb:σ→Int→ω) (step:ω→Lp ω ρ)
  (h1:∀ (i:Nat) (s:σ),i<xs.length→step (emb s (i:Int))=.next (emb (upd s (xs.getD i default)) ((i+1:Nat):Int))) (h2:∀ s:σ,step (emb s (xs.length:Int))=.done (emb s (xs.length:Int)))
  (f:ρ→τ) (g:ω→τ) (s:σ):(runL step (((xs.length:Int)-0).toNat+1) (emb s 0)).fin f g=g (emb (xs.foldl upd s) (xs.length:Int)):=by
 have:=Qdo xs upd emb step h1 h2 f g xs.length 0 s (by omega) (Int.toNat ((xs.length:Int)-0)+1) (by omega)
 rw [List.drop_zero] at this
 exact this
theorem Ki {α:Type} [Inhabited α] (ws:List α) (p:α→Bool):∀ (m i:Nat),i+m=ws.length→anyF (fun k=>p (ws.getD k default)) i m=(ws.drop i).any p
 | 0,i,h=>by rw [List.drop_of_length_le (by omega)]; rfl
 | m+1,i,h=>by
  have hd:ws.drop i=ws.getD i default :: ws.drop (i+1):=by
   rw [List.drop_eq_getElem_cons (show i<ws.length by omega),List.getD_eq_getElem?_getD,List.getElem?_eq_getElem (show i<ws.length by omega)]; rfl
  rw [hd,List.any_cons,anyF,Ki ws p m (i+1) (by omega)]
theorem anyL {α ρ τ:Type} [Inhabited α] (xs:List α) (p:α→Bool) (bad:ρ) (step:Int→Lp Int ρ)
  (h1:∀ i:Nat,i<xs.length→step (i:Int)=bif p (xs.getD i default) then .ret bad else .next ((i+1:Nat):Int)) (h2:step (xs.length:Int)=.done (xs.length:Int))
  (f:ρ→τ) (g:Int→τ) (y:τ) (hg:∀ i,g i=y):(runL step (((xs.length:Int)-0).toNat+1) 0).fin f g=bif xs.any p then f bad else y:=by
 have h:=Yu step xs.length (fun k=>p (xs.getD k default)) bad f y h1 h2 xs.length 0 (by omega) (Int.toNat ((xs.length:Int)-0)+1) (by omega)
 rw [Ki xs p xs.length 0 (by omega),List.drop_zero] at h
 rw [show g=fun _=>y from funext hg]
 exact h
theorem Hy {α β:Type} (p:α→Bool) (f:α→β):∀ (xs:List α) (s:List β),xs.foldl (fun s x=>bif p x then s++[f x] else s) s=s++(xs.filter p).map f
 | [],s=>by simp
 | x :: xs,s=>by
  rw [List.foldl_cons,Hy p f xs]
  cases h:p x with
  | true=>rw [cond_true,List.filter_cons_of_pos h,List.map_cons,List.append_assoc]; rfl
  | false=>rw [cond_false,List.filter_cons_of_neg (by simp [h])]
theorem Zg {α β:Type} (f:α→β):∀ (xs:List α) (s:List β),xs.foldl (fun s x=>s++[f x]) s=s++xs.map f
 | [],s=>by simp
 | x :: xs,s=>by
  rw [List.foldl_cons,Zg f xs,List.map_cons,List.append_assoc]; rfl
theorem Xm {α:Type} (p:α→Bool):∀ (xs:List α) (n:Int),xs.foldl (fun n x=>bif p x then n+1 else n) n=n+(xs.filter p).length
 | [],n=>by simp
 | x :: xs,n=>by
  rw [List.foldl_cons,Xm p xs]
  cases h:p x with
  | true=>rw [cond_true,List.filter_cons_of_pos h,List.length_cons]; omega
  | false=>rw [cond_false,List.filter_cons_of_neg (by simp [h])]
theorem kc57 (line:ByteArray) {K_:Prop} (p0_:line.size≤1048576) (k_:K_):(line.size≤1048576)∧(Imp (.v (.string line)) (.v (.string line)))∧K_:=⟨p0_,Imp.refl _,k_⟩
abbrev kh57 (line:ByteArray):Hint true Tryz.prog:=.call 57 (S57 line) (ok57 line) none
def Xy (lines:List ByteArray):(List ByteArray×Int)→Lp (List ByteArray×Int) (List ByteArray):=fun (out,i40) =>
 bif (decide (i40<(lines.length:Int))) then (.next ((out++[(F57 (lines.getD i40.toNat default))]),(i40+1))) else (.done (out,i40))
def F38 (lines:List ByteArray):List ByteArray :=
 (runL (Xy lines) (((lines.length:Int)-0).toNat+1) (([]:List ByteArray),0)).fin (fun r=>r) (fun (out,i40)=>out)
abbrev Qbr (lines:List ByteArray):Nat×(List ByteArray×Int):=((((lines.length:Int)-0).toNat+1),(([]:List ByteArray),0))
abbrev Qmi (lines:List ByteArray) (m39:Nat) (out:List ByteArray) (i40:Int):Prop:=Int.toNat ((lines.length:Int)-i40)<m39∧(out.length:Int)≤i40∧(0:Int)≤i40
abbrev Qud (lines:List ByteArray):Lp (List ByteArray×Int) (List ByteArray):=LpX (Xy lines) (Qbr lines)
abbrev Qbh (lines:List ByteArray) (i:Nat×(List ByteArray×Int)):Prop:=LpJ (Xy lines) (Qbr lines) i (Qmi lines i.1 i.2.1 i.2.2)
abbrev Ubx (lines:List ByteArray) (i:Nat×(List ByteArray×Int)) (m39:Nat) (out:List ByteArray) (i40:Int):Prop:=LpH (Xy lines) (Qbr lines) i m39 (out,i40) (Qmi lines (m39+1) out i40)
abbrev Qyf (lines:List ByteArray) (out:List ByteArray) (i40:Int) (out_:List ByteArray) (i40_:Int) (K39:Prop):Prop:=((.int .i64 i40:Value)=.int .i64 i40_)∧(Im (.l 1 eStr lines))∧(Imp (.l 1 eStr out) (.l 1 eStr out_))∧K39
theorem un38_0 (lines:List ByteArray) (i:Nat×(List ByteArray×Int)) (h:Qbh lines i):Ubx lines i (i.1-1) i.2.1 i.2.2:=⟨hd1 h.1 h.2.1,hd3 h.2.1,hd2 h.2.1,h.2.2⟩
theorem bk38_0 (lines:List ByteArray) (i:Nat×(List ByteArray×Int)) (m39:Nat) (out:List ByteArray) (i40:Int) (hl:m39<i.1) (e:runL (Xy lines) m39 (out,i40)=Qud lines) (h:Qmi lines m39 out i40):∃ j:Nat×(List ByteArray×Int),Qyf lines out i40 j.2.1 j.2.2 (Qbh lines j∧j.1<i.1):=⟨(m39,(out,i40)),rfl,Imp.refl _,Imp.refl _,⟨e,h⟩,hl⟩
theorem en38_0 (lines:List ByteArray) (h:(([]:List ByteArray).length:Int)≤0∧(0:Int)≤0):Qyf lines ([]:List ByteArray) 0 ([]:List ByteArray) 0 (Qbh lines (Qbr lines)):=⟨rfl,Imp.refl _,Imp.refl _,rfl,Nat.lt_succ_self _,h⟩
theorem fi38 (lines:List ByteArray) (r:List ByteArray) (hF:r=(F38 lines)):(Imp (.l 1 eStr r) (.l 1 eStr (F38 lines)))∧True:=by cases hF; exact ⟨Imp.refl _,trivial⟩
def S38 (R:List ByteArray) (lines:List ByteArray):Spec:=⟨[.r (.c (.l 1 eStr lines))],.ow (.l 1 eStr R),lines.length≤1048576∧(∀ k:Nat,(lines.getD k default).size≤1048576)⟩
theorem ok38 (lines:List ByteArray):(S38 (F38 lines) lines).ok Tryz.prog 38 :=
 Qi mixed (fn:=Tryz.f38) (ct:=.seqk [(0,0)] .no (.seq (.reg [(0,.dat (.l 1 eStr ([]:List ByteArray)))]) (.seq (.seqk [(0,0),(3,0)] .no (.blk (.loop (ι:=Nat×(List ByteArray×Int)) (fun i=>(fun (out:List ByteArray) (i40:Int)=>(⟨[(0,some (.h 0 0)),(3,some (.h 1 0)),(4,some (.v (vI i40)))],[(0,some (.shr none (.l 1 eStr lines))),(1,some (.own 1 (.l 1 eStr out)))],2⟩:St)) i.2.1 i.2.2) (Qbh lines) (fun i=>i.1) (Qbr lines) (fun i=>(fun (out:List ByteArray) (i40:Int)=>(.seq (.seq .no (.cond .no .no)) (.seq (.blk (.reg [(5,kh57 (lines.getD i40.toNat default)),(7,.dat (.l 1 eStr (out++[(F57 (lines.getD i40.toNat default))])))])) (.reg [(1,.bnd)])))) i.2.1 i.2.2)))) (.seq .no .no)))) Tryz.func38 (fun (hp:lines.length≤1048576∧(∀ k:Nat,(lines.getD k default).size≤1048576))=>have hpre0:=hp.1; have hpre1:=hp.2; kn lines fun _=>ai (bokr 1 eStr ([]:List ByteArray) fun _=>rfl) (kn lines fun _=>kn ([]:List ByteArray) fun _=>ai (en38_0 lines (by refine ⟨?_,?_⟩ <;> first | omega | (simp only [lens,ib] at*<;> omega))) (fun (i0:Nat×(List ByteArray×Int)) (hi0:Qbh lines i0)=>(fun (m0:Nat) (out:List ByteArray) (i40:Int) (hh0:Ubx lines i0 m0 out i40)=>have hI0:=hh0.1; have hl0:=hh0.2.1; have _:=hh0.2.2.1; have _:=hh0.2.2.2; ifd (i40<(lines.length:Int)) (fun h2 _=>ai (by first | omega | (simp only [lens,ib] at*<;> omega):ib i40 lines) (kc57 (lines.getD i40.toNat default) (by first | omega | exact hpre1 _ | (intros; exact trivial) | (intros; exact Nat.zero_le _)) (ai (appr 1 eStr out [(F57 (lines.getD i40.toNat default))] fun _=>rfl) (ai (by (try simp only [lens]); omega:(out++[(F57 (lines.getD i40.toNat default))]).length*16≤140737488355328) (ai (iok (i40+1) (by first | omega | (simp only [lens,ib] at*<;> omega))) (bk38_0 lines i0 m0 (out++[(F57 (lines.getD i40.toNat default))]) (i40+1) hl0 (Qe hI0 (condT h2 rfl)) (by refine ⟨?_,?_,?_⟩ <;> first | omega | (simp only [lens,ib] at*<;> omega)))))))) (fun h2 _=>have hD0_3:Qud lines=Lp.done (out,i40):=Ql hI0 (condF h2 rfl); fi38 lines out (finD hD0_3 rfl))) (i0.1-1) i0.2.1 i0.2.2 (un38_0 lines i0 hi0)))) (by kernel_rfl)
def Xo (lines:List ByteArray) (word:ByteArray):(List (List ByteArray)×Int)→Lp (List (List ByteArray)×Int) (List (List ByteArray)):=fun (out,v12) =>
 bif (decide (v12<(lines.length:Int))) then (bif (((F51 (lines.getD v12.toNat default) ⟨#[32]⟩).getD (Int.toNat 0) default).toList==word.toList) then (.next ((out++[(F51 (lines.getD v12.toNat default) ⟨#[32]⟩)]),(v12+1))) else (.next (out,(v12+1)))) else (.done (out,v12))
def F35 (lines:List ByteArray) (word:ByteArray):List (List ByteArray) :=
 (runL (Xo lines word) (((lines.length:Int)-0).toNat+1) (([]:List (List ByteArray)),0)).fin (fun r=>r) (fun (out,v12)=>out)
abbrev Ed (lines:List ByteArray):Nat×(List (List ByteArray)×Int):=((((lines.length:Int)-0).toNat+1),(([]:List (List ByteArray)),0))
abbrev Qml (lines:List ByteArray) (m39:Nat) (out:List (List ByteArray)) (v12:Int):Prop:=Int.toNat ((lines.length:Int)-v12)<m39∧(out.length:Int)≤v12∧(0:Int)≤v12
abbrev Ubn (lines:List ByteArray) (word:ByteArray):Lp (List (List ByteArray)×Int) (List (List ByteArray)):=LpX (Xo lines word) (Ed lines)
abbrev Ee (lines:List ByteArray) (word:ByteArray) (i:Nat×(List (List ByteArray)×Int)):Prop:=LpJ (Xo lines word) (Ed lines) i (Qml lines i.1 i.2.1 i.2.2)
abbrev Qwl (lines:List ByteArray) (word:ByteArray) (i:Nat×(List (List ByteArray)×Int)) (m39:Nat) (out:List (List ByteArray)) (v12:Int):Prop:=LpH (Xo lines word) (Ed lines) i m39 (out,v12) (Qml lines (m39+1) out v12)
abbrev Que (lines:List ByteArray) (word:ByteArray) (out:List (List ByteArray)) (v12:Int) (out_:List (List ByteArray)) (v12_:Int) (K39:Prop):Prop:=(Rf (.string word))∧(Rf (.int .i64 (lines.length:Int)))∧((.int .i64 v12:Value)=.int .i64 v12_)∧(Imp (.l 1 (eL 1 eStr) out) (.l 1 (eL 1 eStr) out_))∧(Im (.l 1 eStr lines))∧K39
theorem un35_0 (lines:List ByteArray) (word:ByteArray) (i:Nat×(List (List ByteArray)×Int)) (h:Ee lines word i):Qwl lines word i (i.1-1) i.2.1 i.2.2:=⟨hd1 h.1 h.2.1,hd3 h.2.1,hd2 h.2.1,h.2.2⟩
theorem Qur (lines:List ByteArray) (word:ByteArray) (i:Nat×(List (List ByteArray)×Int)) (m39:Nat) (out:List (List ByteArray)) (v12:Int) (hl:m39<i.1) (e:runL (Xo lines word) m39 (out,v12)=Ubn lines word) (h:Qml lines m39 out v12):∃ j:Nat×(List (List ByteArray)×Int),Que lines word out v12 j.2.1 j.2.2 (Ee lines word j∧j.1<i.1):=⟨(m39,(out,v12)),rfl,rfl,rfl,Imp.refl _,Imp.refl _,⟨e,h⟩,hl⟩
theorem en35_0 (lines:List ByteArray) (word:ByteArray) (h:(([]:List (List ByteArray)).length:Int)≤0∧(0:Int)≤0):Que lines word ([]:List (List ByteArray)) 0 ([]:List (List ByteArray)) 0 (Ee lines word (Ed lines)):=⟨rfl,rfl,rfl,Imp.refl _,Imp.refl _,rfl,Nat.lt_succ_self _,h⟩
theorem fi35 (lines:List ByteArray) (word:ByteArray) (r:List (List ByteArray)) (hF:r=(F35 lines word)):(Imp (.l 1 (eL 1 eStr) r) (.l 1 (eL 1 eStr) (F35 lines word)))∧True:=by cases hF; exact ⟨Imp.refl _,trivial⟩
def S35 (R:List (List ByteArray)) (lines:List ByteArray) (word:ByteArray):Spec:=⟨[.r (.c (.l 1 eStr lines)),.r (.c (.v (.string word)))],.ow (.l 1 (eL 1 eStr) R),lines.length≤1048576∧(∀ k:Nat,(lines.getD k default).size≤1048576)⟩
theorem ok35 (lines:List ByteArray) (word:ByteArray):(S35 (F35 lines word) lines word).ok Tryz.prog 35 :=
 Qi mixed (fn:=Tryz.f35) (ct:=.seqk [(0,0)] .no (.seq (.reg [(0,.dat (.l 1 (eL 1 eStr) ([]:List (List ByteArray))))]) (.seq (.seqk [(5,0),(10,0)] .no (.blk (.loop (ι:=Nat×(List (List ByteArray)×Int)) (fun i=>(fun (out:List (List ByteArray)) (v12:Int)=>(⟨[(1,some (.v (.string word))),(5,some (.h 0 0)),(10,some (.h 1 0)),(11,some (.v (vI (lines.length:Int)))),(12,some (.v (vI v12)))],[(0,some (.own 0 (.l 1 (eL 1 eStr) out))),(1,some (.shr none (.l 1 eStr lines)))],2⟩:St)) i.2.1 i.2.2) (Ee lines word) (fun i=>i.1) (Ed lines) (fun i=>(fun (out:List (List ByteArray)) (v12:Int)=>(.seq .no (.seq (.cond .no .no) (.seq (.blk (.seq .no (.seq (.reg [(1,kh51 (lines.getD v12.toNat default) w15_)]) (.seq .no (.cond (.reg [(3,.dat (.l 1 (eL 1 eStr) (out++[(F51 (lines.getD v12.toNat default) w15_)])))]) .no))))) (.reg [(0,.bnd)]))))) i.2.1 i.2.2)))) (.seq .no .no)))) Tryz.func35 (fun (hp:lines.length≤1048576∧(∀ k:Nat,(lines.getD k default).size≤1048576))=>have hpre0:=hp.1; have hpre1:=hp.2; kn lines fun _=>ai (bokr 1 (eL 1 eStr) ([]:List (List ByteArray)) fun _=>rfl) (kn ([]:List (List ByteArray)) fun _=>kn lines fun _=>ai (en35_0 lines word (by refine ⟨?_,?_⟩ <;> first | omega | (simp only [lens,ib] at*<;> omega))) (fun (i0:Nat×(List (List ByteArray)×Int)) (hi0:Ee lines word i0)=>(fun (m0:Nat) (out:List (List ByteArray)) (v12:Int) (hh0:Qwl lines word i0 m0 out v12)=>have hI0:=hh0.1; have hl0:=hh0.2.1; have _:=hh0.2.2.1; have _:=hh0.2.2.2; ifd (v12<(lines.length:Int)) (fun h2 _=>ai (by first | omega | (simp only [lens,ib] at*<;> omega):ib v12 lines) (kc51 (lines.getD v12.toNat default) w15_ (by first | decide | (have hz:=hpre1 v12.toNat; omega)) (by first | decide | (have hz:=hpre1 v12.toNat; omega)) (by first | decide | (have hz:=hpre1 v12.toNat; omega)) (by first | decide | (have hz:=hpre1 v12.toNat; omega)) (fun gv3 gv4=>ai (by first | omega | (simp only [lens,ib] at*<;> omega):ib 0 (F51 (lines.getD v12.toNat default) w15_)) (ifb (((F51 (lines.getD v12.toNat default) w15_).getD (Int.toNat 0) default).toList==word.toList) (fun h5=>ai (appr 1 (eL 1 eStr) out [(F51 (lines.getD v12.toNat default) w15_)] fun _=>rfl) (ai (by (try simp only [lens]); omega:(out++[(F51 (lines.getD v12.toNat default) w15_)]).length*24≤140737488355328) (ai (iok (v12+1) (by first | omega | (simp only [lens,ib] at*<;> omega))) (Qur lines word i0 m0 (out++[(F51 (lines.getD v12.toNat default) w15_)]) (v12+1) hl0 (Qe hI0 (condT h2 (condT h5 rfl))) (by refine ⟨?_,?_,?_⟩ <;> first | omega | (simp only [lens,ib] at*<;> omega)))))) (fun h5=>ai (iok (v12+1) (by first | omega | (simp only [lens,ib] at*<;> omega))) (Qur lines word i0 m0 out (v12+1) hl0 (Qe hI0 (condT h2 (condF h5 rfl))) (by refine ⟨?_,?_,?_⟩ <;> first | omega | (simp only [lens,ib] at*<;> omega)))))))) (fun h2 _=>have hD0_6:Ubn lines word=Lp.done (out,v12):=Ql hI0 (condF h2 rfl); fi35 lines word out (finD hD0_6 rfl))) (i0.1-1) i0.2.1 i0.2.2 (un35_0 lines word i0 hi0)))) (by kernel_rfl)
theorem as38 (lines:List ByteArray):F38 lines=(lines.map F57):=by
 unfold F38
 have:=Uz lines (fun (s:List ByteArray) x=>s++[F57 x]) (fun s i=>(s,i)) (Xy lines) (fun i s hi=>by
  simp only [Xy,ltD hi,cond_true,nn]; rfl) (fun s=>by simp only [Xy,geD,cond_false]) (fun r=>r) (fun (out,i40)=>out) []
 refine this.trans ?_
 rw [Zg,List.nil_append]
def Qb (lines:List ByteArray) (word:ByteArray):List (List ByteArray):=(lines.map fun l=>Qy l (⟨#[32]⟩:ByteArray)).filter fun w=>(w.getD 0 default).data.toList==word.data.toList
theorem as35 (lines:List ByteArray) (word:ByteArray):F35 lines word=(Qb lines word):=by
 unfold F35
 have:=Uz lines (fun (s:List (List ByteArray)) x=>bif ((Qy x (⟨#[32]⟩:ByteArray)).getD 0 default).data.toList==word.data.toList then s++[Qy x (⟨#[32]⟩:ByteArray)] else s) (fun s i=>(s,i)) (Xo lines word) (fun i s hi=>by
  simp only [Xo,ltD hi,cond_true,nn,Ua,F51]
  show (bif ((Qy (lines.getD i default) (⟨#[32]⟩:ByteArray)).getD 0 default).data.toList==word.data.toList then _ else _)=_
  cases (((Qy (lines.getD i default) (⟨#[32]⟩:ByteArray)).getD 0 default).data.toList==word.data.toList) <;> rfl) (fun s=>by simp only [Xo,geD,cond_false]) (fun r=>r) (fun (out,v12)=>out) []
 refine this.trans ?_
 have h:=Hy (fun x=>((Qy x (⟨#[32]⟩:ByteArray)).getD 0 default).data.toList==word.data.toList) (fun x=>Qy x (⟨#[32]⟩:ByteArray)) lines []
 rw [List.nil_append] at h
 refine h.trans ?_
 unfold Qb
 rw [List.filter_map]
 rfl
def T38 (R:List ByteArray) (lines:List ByteArray):Spec:=⟨(S38 R lines).args,(S38 R lines).res,lines.length≤1048576∧(∀ k:Nat,(lines.getD k default).size≤1048576)⟩
theorem oa38 (lines:List ByteArray):(T38 (lines.map F57) lines).ok Tryz.prog 38:=by
 intro hp; have h:=ok38 lines hp; rw [as38 lines] at h; exact h
def T35 (R:List (List ByteArray)) (lines:List ByteArray) (word:ByteArray):Spec:=⟨(S35 R lines word).args,(S35 R lines word).res,lines.length≤1048576∧(∀ k:Nat,(lines.getD k default).size≤1048576)⟩
theorem oa35 (lines:List ByteArray) (word:ByteArray):(T35 (Qb lines word) lines word).ok Tryz.prog 35:=by
 intro hp; have h:=ok35 lines word hp; rw [as35 lines word] at h; exact h
def F80 (l:ByteArray):Bool :=
 (!(F81 l))
def S80 (l:ByteArray):Spec:=⟨[.r (.c (.v (.string l)))],.v (.bool (F80 l)),l.size≤1048576⟩
theorem ok80 (l:ByteArray):(S80 l).ok Tryz.prog 80 false :=
 Qi mixed (fn:=Tryz.f80) (ct:=.seq .no (.seq (.reg [(1,kh81 l)]) .no)) Tryz.func80 (fun (hpre0:l.size≤1048576)=>kc81 l (by omega) (fiB (!(F81 l)) (F80 l) rfl)) (by kernel_rfl)
theorem kc82 (line:ByteArray) {K_:Prop} (p0_:line.size≤1048576) (k_:K_):(line.size≤1048576)∧(Imp (.v (.string line)) (.v (.string line)))∧K_:=⟨p0_,Imp.refl _,k_⟩
abbrev kh82 (line:ByteArray):Hint false Tryz.prog:=.call 82 (S82 line) (ok82 line) none
def Xc (lines:List ByteArray):(Int×ML Bool)→Lp (Int×ML Bool) Int:=fun (v31,ms) =>
 bif (decide (v31<(lines.length:Int))) then (.next ((v31+1),(putM ms (F82 (lines.getD v31.toNat default)) true))) else (.done (v31,ms))
def Ep (lines:List ByteArray):Lp (ML Bool) Int :=
 (runL (Xc lines) (((lines.length:Int)-0).toNat+1) (0,([]:ML Bool))).fin Lp.ret (fun (v31,ms)=>.done ms)
def Nk (lines:List ByteArray):Int→Lp Int Int:=fun i40 =>
 bif (decide (i40<(lines.length:Int))) then (bif (!(Op.bytesLess (lines.getD (i40-1).toNat default).toList (lines.getD i40.toNat default).toList)) then (.ret 3) else (.next (i40+1))) else (.done i40)
def F66 (lines:List ByteArray):Int :=
 bif (decide ((lines.length:Int)>16)) then 1 else (bif (lines.any (fun (x0:ByteArray)=>F80 x0)) then 2 else ((runL (Nk lines) (((lines.length:Int)-1).toNat+1) 1).fin (fun r=>r) (fun i40=>(Ep lines).fin (fun r=>r) (fun keys=>bif (decide ((keys.length:Int)<(lines.length:Int))) then 4 else 0))))
abbrev Qbx (lines:List ByteArray):Nat×(Int×ML Bool):=((((lines.length:Int)-0).toNat+1),(0,([]:ML Bool)))
abbrev Qky (lines:List ByteArray) (m39:Nat) (v31:Int) (ms:ML Bool):Prop:=Int.toNat ((lines.length:Int)-v31)<m39∧(0:Int)≤v31
abbrev Qvz (lines:List ByteArray):Lp (Int×ML Bool) Int:=LpX (Xc lines) (Qbx lines)
abbrev Et (lines:List ByteArray) (i:Nat×(Int×ML Bool)):Prop:=LpJ (Xc lines) (Qbx lines) i (Qky lines i.1 i.2.1 i.2.2)
abbrev Ubt (lines:List ByteArray) (i:Nat×(Int×ML Bool)) (m39:Nat) (v31:Int) (ms:ML Bool):Prop:=LpH (Xc lines) (Qbx lines) i m39 (v31,ms) (Qky lines (m39+1) v31 ms)
abbrev Qsu (lines:List ByteArray) (v31:Int) (ms:ML Bool) (v31_:Int) (ms_:ML Bool) (K39:Prop):Prop:=(Rf (.int .i64 (lines.length:Int)))∧((.int .i64 v31:Value)=.int .i64 v31_)∧(Im (.l 1 eStr lines))∧(Imp (.x (MX Value.bool ms)) (.x (MX Value.bool ms_)))∧K39
theorem un66_1 (lines:List ByteArray) (i:Nat×(Int×ML Bool)) (h:Et lines i):Ubt lines i (i.1-1) i.2.1 i.2.2:=⟨hd1 h.1 h.2.1,hd3 h.2.1,hd2 h.2.1,h.2.2⟩
theorem bk66_1 (lines:List ByteArray) (i:Nat×(Int×ML Bool)) (m39:Nat) (v31:Int) (ms:ML Bool) (hl:m39<i.1) (e:runL (Xc lines) m39 (v31,ms)=Qvz lines) (h:Qky lines m39 v31 ms):∃ j:Nat×(Int×ML Bool),Qsu lines v31 ms j.2.1 j.2.2 (Et lines j∧j.1<i.1):=⟨(m39,(v31,ms)),rfl,rfl,Imp.refl _,Imp.refl _,⟨e,h⟩,hl⟩
theorem en66_1 (lines:List ByteArray) (h:(0:Int)≤0):Qsu lines 0 ([]:ML Bool) 0 ([]:ML Bool) (Et lines (Qbx lines)):=⟨rfl,rfl,Imp.refl _,Imp.refl _,rfl,Nat.lt_succ_self _,h⟩
abbrev Qmr (lines:List ByteArray) (j:ML Bool):Prop:=(Ep lines)=Lp.done j
theorem jn66_0 (lines:List ByteArray) (keys:ML Bool) (e:(Ep lines)=Lp.done keys):∃ j:ML Bool,(Imp (.l 1 eStr lines) (.l 1 eStr lines))∧(Imp (.x (MX Value.bool keys)) (.x (MX Value.bool j)))∧Qmr lines j:=⟨keys,Imp.refl _,Imp.refl _,e⟩
abbrev Tn (lines:List ByteArray):Nat×Int:=((((lines.length:Int)-1).toNat+1),1)
abbrev Qlw (lines:List ByteArray) (m39:Nat) (i40:Int):Prop:=Int.toNat ((lines.length:Int)-i40)<m39∧(1:Int)≤i40∧(0:Int)≤i40
abbrev Qvo (lines:List ByteArray):Lp Int Int:=LpX (Nk lines) (Tn lines)
abbrev Qci (lines:List ByteArray) (i:Nat×Int):Prop:=LpJ (Nk lines) (Tn lines) i (Qlw lines i.1 i.2)
abbrev Qtq (lines:List ByteArray) (i:Nat×Int) (m39:Nat) (i40:Int):Prop:=LpH (Nk lines) (Tn lines) i m39 i40 (Qlw lines (m39+1) i40)
abbrev Qtm (lines:List ByteArray) (i40:Int) (i40_:Int) (K39:Prop):Prop:=((.int .i64 i40:Value)=.int .i64 i40_)∧(Im (.l 1 eStr lines))∧K39
theorem un66_0 (lines:List ByteArray) (i:Nat×Int) (h:Qci lines i):Qtq lines i (i.1-1) i.2:=⟨hd1 h.1 h.2.1,hd3 h.2.1,hd2 h.2.1,h.2.2⟩
theorem bk66_0 (lines:List ByteArray) (i:Nat×Int) (m39:Nat) (i40:Int) (hl:m39<i.1) (e:runL (Nk lines) m39 i40=Qvo lines) (h:Qlw lines m39 i40):∃ j:Nat×Int,Qtm lines i40 j.2 (Qci lines j∧j.1<i.1):=⟨(m39,i40),rfl,Imp.refl _,⟨e,h⟩,hl⟩
theorem en66_0 (lines:List ByteArray) (h:(1:Int)≤1∧(0:Int)≤1):Qtm lines 1 1 (Qci lines (Tn lines)):=⟨rfl,Imp.refl _,rfl,Nat.lt_succ_self _,h⟩
def S66 (lines:List ByteArray):Spec:=⟨[.r (.c (.l 1 eStr lines))],.v (vI (F66 lines)),(∀ k:Nat,(lines.getD k default).size≤1048576)⟩
theorem ok66 (lines:List ByteArray):(S66 lines).ok Tryz.prog 66 false :=
 Qi mixed (fn:=Tryz.f66) (ct:=.seqk [(0,0)] .no (.seq (.seq .no (.cond (.seq .no .no) .no)) (.seq (.seq (.reg [(1,.call 79 (S79 (lines.any (fun (x0:ByteArray)=>F80 x0)) lines (fun (x0:ByteArray)=>F80 x0) (fun (x0:ByteArray)=>x0.size≤1048576)) (oa79 lines (fun (x0:ByteArray)=>F80 x0) (fun (x0:ByteArray)=>x0.size≤1048576)) (some ⟨false,80,Zd (fun (x0:ByteArray)=>x0.size≤1048576) (fun (x0:ByteArray)=>F80 x0),[],rfl,True,fun i=>Bl (ok80 i)⟩))]) (.cond (.seq .no .no) .no)) (.seq (.seqk [(0,0)] .no (.blk (.loop (ι:=Nat×Int) (fun i=>(fun (i40:Int)=>(⟨[(0,some (.h 0 0)),(3,some (.v (vI i40)))],[(0,some (.shr none (.l 1 eStr lines)))],1⟩:St)) i.2) (Qci lines) (fun i=>i.1) (Tn lines) (fun i=>(fun (i40:Int)=>(.seq (.seq .no (.cond .no .no)) (.seq (.blk (.seq (.reg [(2,.bnd)]) (.cond (.seq .no .no) .no))) (.reg [(1,.bnd)])))) i.2)))) (.seq (.reg [(0,.mpm Value.bool)]) (.cut (ι:=ML Bool) (fun j=>(fun (keys:ML Bool)=>(⟨[(0,some (.h 0 0)),(4,some (.h 1 0))],[(0,some (.shr none (.l 1 eStr lines))),(1,some (.own 1 (.x (MX Value.bool keys))))],2⟩:St)) j) (Qmr lines) (.seqk [(29,0)] .no (.blk (.loop (ι:=Nat×(Int×ML Bool)) (fun i=>(fun (v31:Int) (ms:ML Bool)=>(⟨[(0,some (.h 0 0)),(4,some (.h 1 0)),(29,some (.h 0 0)),(30,some (.v (vI (lines.length:Int)))),(31,some (.v (vI v31)))],[(0,some (.shr none (.l 1 eStr lines))),(1,some (.own 1 (.x (MX Value.bool ms))))],2⟩:St)) i.2.1 i.2.2) (Et lines) (fun i=>i.1) (Qbx lines) (fun i=>(fun (v31:Int) (ms:ML Bool)=>(.seq .no (.seq (.cond .no .no) (.seq (.blk (.seq .no (.reg [(2,kh82 (lines.getD v31.toNat default)),(3,.mpu Value.bool ms true)]))) (.reg [(0,.bnd)]))))) i.2.1 i.2.2)))) (fun j=>(fun (keys:ML Bool)=>(.seq (.seq (.reg [(1,.mpn Value.bool keys)]) (.cond (.seq .no .no) .no)) (.seq .no .no))) j))))))) Tryz.func66 (fun (hpre0:∀ k:Nat,(lines.getD k default).size≤1048576)=>kn lines fun _=>ifd ((lines.length:Int)>16) (fun h1 _=>fiI 1 (F66 lines) (condT h1 rfl)) (fun h1 _=>ai (by first | assumption | exact hpre0 _ | exact fun k _=>hpre0 k | (intros; exact trivial) | (intros; exact Nat.zero_le _):∀ k:Nat,k<lines.length→(fun (x0:ByteArray)=>x0.size≤1048576) (lines.getD k default)) (ai (Imp.refl (.l 1 eStr lines)) (ai (Eq.refl (Zd (fun (x0:ByteArray)=>x0.size≤1048576) (fun (x0:ByteArray)=>F80 x0))) (ai trivial (ifb (lines.any (fun (x0:ByteArray)=>F80 x0)) (fun h2=>fiI 2 (F66 lines) (condF h1 (condT h2 rfl))) (fun h2=>kn lines fun _=>ai (en66_0 lines (by refine ⟨?_,?_⟩ <;> omega)) (fun (i0:Nat×Int) (hi0:Qci lines i0)=>(fun (m0:Nat) (i40:Int) (hh0:Qtq lines i0 m0 i40)=>have hI0:=hh0.1; have hl0:=hh0.2.1; have _:=hh0.2.2.1; have _:=hh0.2.2.2; ifd (i40<(lines.length:Int)) (fun h4 _=>ai (iok (i40-1) (by omega)) (ai (by omega:ib (i40-1) lines) (ai (by omega:ib i40 lines) (ifb (!(Op.bytesLess (lines.getD (i40-1).toNat default).toList (lines.getD i40.toNat default).toList)) (fun h5=>fiI 3 (F66 lines) (condF h1 (condF h2 (finR (Qr hI0 (condT h4 (condT h5 rfl))) rfl)))) (fun h5=>ai (iok (i40+1) (by omega)) (bk66_0 lines i0 m0 (i40+1) hl0 (Qe hI0 (condT h4 (condF h5 rfl))) (by refine ⟨?_,?_,?_⟩ <;> omega))))))) (fun h4 _=>have hD0_6:Qvo lines=Lp.done i40:=Ql hI0 (condF h4 rfl); ai (kn lines fun _=>ai (en66_1 lines (by omega)) (fun (i1:Nat×(Int×ML Bool)) (hi1:Et lines i1)=>(fun (m1:Nat) (v31:Int) (ms:ML Bool) (hh1:Ubt lines i1 m1 v31 ms)=>have hI1:=hh1.1; have hl1:=hh1.2.1; have _:=hh1.2.2.1; have _:=hh1.2.2.2; ifd (v31<(lines.length:Int)) (fun h8 _=>ai (by omega:ib v31 lines) (kc82 (lines.getD v31.toNat default) (by first | omega | exact hpre0 _ | (intros; exact trivial) | (intros; exact Nat.zero_le _)) (ai (Eq.refl (MX Value.bool ms)) (ai (Eq.refl (Value.bool true)) (ai (iok (v31+1) (by omega)) (bk66_1 lines i1 m1 (v31+1) (putM ms (F82 (lines.getD v31.toNat default)) true) hl1 (Qe hI1 (condT h8 rfl)) (by refine ⟨?_,?_⟩ <;> omega))))))) (fun h8 _=>have hD1_9:Qvz lines=Lp.done (v31,ms):=Ql hI1 (condF h8 rfl); jn66_0 lines ms (Eq.symm (finD hD1_9 rfl)) )) (i1.1-1) i1.2.1 i1.2.2 (un66_1 lines i1 hi1))) (fun (j:ML Bool) (hj:Qmr lines j)=>(fun (keys:ML Bool) (hJ0_10:(Ep lines)=Lp.done keys)=>ai (Eq.refl (MX Value.bool keys)) (ifd ((keys.length:Int)<(lines.length:Int)) (fun h11 _=>fiI 4 (F66 lines) (condF h1 (condF h2 (finD hD0_6 (finD hJ0_10 (condT h11 rfl)))))) (fun h11 _=>fiI 0 (F66 lines) (condF h1 (condF h2 (finD hD0_6 (finD hJ0_10 (condF h11 rfl)))))))) j hj))) (i0.1-1) i0.2 (un66_0 lines i0 hi0))))))))) (by kernel_rfl)
theorem kc38a (lines:List ByteArray) {K_:Prop} (p0_:lines.length≤1048576) (p1_:∀ k:Nat,(lines.getD k default).size≤1048576) (k_:K_):(lines.length≤1048576∧(∀ k:Nat,(lines.getD k default).size≤1048576))∧(Imp (.l 1 eStr lines) (.l 1 eStr lines))∧K_:=⟨⟨p0_,p1_⟩,Imp.refl _,k_⟩
abbrev kh38a (lines:List ByteArray):Hint true Tryz.prog:=.call 38 (T38 (lines.map F57) lines) (oa38 lines) none
def Jp (lines:List ByteArray):Int→Lp Int Int:=fun i42 =>
 bif (decide (i42<(lines.length:Int))) then (bif (F39 ((lines.map F57).take i42.toNat) ((lines.map F57).getD i42.toNat default)) then (.ret 4) else (.next (i42+1))) else (.done i42)
def Xk (lines:List ByteArray):Int→Lp Int Int:=fun i41 =>
 bif (decide (i41<(lines.length:Int))) then (bif (!(Op.bytesLess (lines.getD (i41-1).toNat default).toList (lines.getD i41.toNat default).toList)) then (.ret 3) else (.next (i41+1))) else (.done i41)
def Ws (lines:List ByteArray):Int→Lp Int Int:=fun i40 =>
 bif (decide (i40<(lines.length:Int))) then (bif (((lines.map F57).getD i40.toNat default).toList==(⟨#[]⟩:ByteArray).toList) then (.ret 2) else (.next (i40+1))) else (.done i40)
def F20 (lines:List ByteArray):Int :=
 bif (decide ((lines.length:Int)>16)) then 1 else ((runL (Ws lines) (((lines.length:Int)-0).toNat+1) 0).fin (fun r=>r) (fun i40=>(runL (Xk lines) (((lines.length:Int)-1).toNat+1) 1).fin (fun r=>r) (fun i41=>(runL (Jp lines) (((lines.length:Int)-0).toNat+1) 0).fin (fun r=>r) (fun i42=>0))))
abbrev Em (lines:List ByteArray):Nat×Int:=((((lines.length:Int)-0).toNat+1),0)
abbrev Qmo (lines:List ByteArray) (m39:Nat) (i42:Int):Prop:=Int.toNat ((lines.length:Int)-i42)<m39∧(0:Int)≤i42
abbrev Uaf (lines:List ByteArray):Lp Int Int:=LpX (Jp lines) (Em lines)
abbrev Rt (lines:List ByteArray) (i:Nat×Int):Prop:=LpJ (Jp lines) (Em lines) i (Qmo lines i.1 i.2)
abbrev Qvu (lines:List ByteArray) (i:Nat×Int) (m39:Nat) (i42:Int):Prop:=LpH (Jp lines) (Em lines) i m39 i42 (Qmo lines (m39+1) i42)
abbrev Qst (lines:List ByteArray) (i42:Int) (i42_:Int) (K39:Prop):Prop:=((.int .i64 i42:Value)=.int .i64 i42_)∧(Im (.l 1 eStr lines))∧(Im (.l 1 eStr (lines.map F57)))∧K39
theorem un20_2 (lines:List ByteArray) (i:Nat×Int) (h:Rt lines i):Qvu lines i (i.1-1) i.2:=⟨hd1 h.1 h.2.1,hd3 h.2.1,hd2 h.2.1,h.2.2⟩
theorem bk20_2 (lines:List ByteArray) (i:Nat×Int) (m39:Nat) (i42:Int) (hl:m39<i.1) (e:runL (Jp lines) m39 i42=Uaf lines) (h:Qmo lines m39 i42):∃ j:Nat×Int,Qst lines i42 j.2 (Rt lines j∧j.1<i.1):=⟨(m39,i42),rfl,Imp.refl _,Imp.refl _,⟨e,h⟩,hl⟩
theorem en20_2 (lines:List ByteArray) (h:(0:Int)≤0):Qst lines 0 0 (Rt lines (Em lines)):=⟨rfl,Imp.refl _,Imp.refl _,rfl,Nat.lt_succ_self _,h⟩
abbrev Qau (lines:List ByteArray):Nat×Int:=((((lines.length:Int)-1).toNat+1),1)
abbrev Qlz (lines:List ByteArray) (m39:Nat) (i41:Int):Prop:=Int.toNat ((lines.length:Int)-i41)<m39∧(1:Int)≤i41∧(0:Int)≤i41
abbrev Ube (lines:List ByteArray):Lp Int Int:=LpX (Xk lines) (Qau lines)
abbrev Rd (lines:List ByteArray) (i:Nat×Int):Prop:=LpJ (Xk lines) (Qau lines) i (Qlz lines i.1 i.2)
abbrev Qyc (lines:List ByteArray) (i:Nat×Int) (m39:Nat) (i41:Int):Prop:=LpH (Xk lines) (Qau lines) i m39 i41 (Qlz lines (m39+1) i41)
abbrev Qwa (lines:List ByteArray) (i41:Int) (i41_:Int) (K39:Prop):Prop:=((.int .i64 i41:Value)=.int .i64 i41_)∧(Im (.l 1 eStr lines))∧(Im (.l 1 eStr (lines.map F57)))∧K39
theorem un20_1 (lines:List ByteArray) (i:Nat×Int) (h:Rd lines i):Qyc lines i (i.1-1) i.2:=⟨hd1 h.1 h.2.1,hd3 h.2.1,hd2 h.2.1,h.2.2⟩
theorem bk20_1 (lines:List ByteArray) (i:Nat×Int) (m39:Nat) (i41:Int) (hl:m39<i.1) (e:runL (Xk lines) m39 i41=Ube lines) (h:Qlz lines m39 i41):∃ j:Nat×Int,Qwa lines i41 j.2 (Rd lines j∧j.1<i.1):=⟨(m39,i41),rfl,Imp.refl _,Imp.refl _,⟨e,h⟩,hl⟩
theorem en20_1 (lines:List ByteArray) (h:(1:Int)≤1∧(0:Int)≤1):Qwa lines 1 1 (Rd lines (Qau lines)):=⟨rfl,Imp.refl _,Imp.refl _,rfl,Nat.lt_succ_self _,h⟩
abbrev Eo (lines:List ByteArray):Nat×Int:=((((lines.length:Int)-0).toNat+1),0)
abbrev Qmq (lines:List ByteArray) (m39:Nat) (i40:Int):Prop:=Int.toNat ((lines.length:Int)-i40)<m39∧(0:Int)≤i40
abbrev Ubl (lines:List ByteArray):Lp Int Int:=LpX (Ws lines) (Eo lines)
abbrev Qaz (lines:List ByteArray) (i:Nat×Int):Prop:=LpJ (Ws lines) (Eo lines) i (Qmq lines i.1 i.2)
abbrev Qvx (lines:List ByteArray) (i:Nat×Int) (m39:Nat) (i40:Int):Prop:=LpH (Ws lines) (Eo lines) i m39 i40 (Qmq lines (m39+1) i40)
abbrev Qul (lines:List ByteArray) (i40:Int) (i40_:Int) (K39:Prop):Prop:=((.int .i64 i40:Value)=.int .i64 i40_)∧(Im (.l 1 eStr lines))∧(Im (.l 1 eStr (lines.map F57)))∧K39
theorem un20_0 (lines:List ByteArray) (i:Nat×Int) (h:Qaz lines i):Qvx lines i (i.1-1) i.2:=⟨hd1 h.1 h.2.1,hd3 h.2.1,hd2 h.2.1,h.2.2⟩
theorem bk20_0 (lines:List ByteArray) (i:Nat×Int) (m39:Nat) (i40:Int) (hl:m39<i.1) (e:runL (Ws lines) m39 i40=Ubl lines) (h:Qmq lines m39 i40):∃ j:Nat×Int,Qul lines i40 j.2 (Qaz lines j∧j.1<i.1):=⟨(m39,i40),rfl,Imp.refl _,Imp.refl _,⟨e,h⟩,hl⟩
theorem en20_0 (lines:List ByteArray) (h:(0:Int)≤0):Qul lines 0 0 (Qaz lines (Eo lines)):=⟨rfl,Imp.refl _,Imp.refl _,rfl,Nat.lt_succ_self _,h⟩
def S20 (lines:List ByteArray):Spec:=⟨[.r (.c (.l 1 eStr lines))],.v (vI (F20 lines)),(∀ k:Nat,(lines.getD k default).size≤1048576)⟩
theorem ok20 (lines:List ByteArray):(S20 lines).ok Tryz.prog 20 :=
 Qi mixed (fn:=Tryz.f20) (ct:=.seqk [(0,0)] .no (.seq (.seq .no (.cond (.seq .no .no) .no)) (.seq (.reg [(1,kh38a lines)]) (.seq (.seqk [(0,0),(3,0)] .no (.blk (.loop (ι:=Nat×Int) (fun i=>(fun (i40:Int)=>(⟨[(0,some (.h 0 0)),(3,some (.h 1 0)),(4,some (.v (vI i40)))],[(0,some (.shr none (.l 1 eStr lines))),(1,some (.own 1 (.l 1 eStr (lines.map F57))))],2⟩:St)) i.2) (Qaz lines) (fun i=>i.1) (Eo lines) (fun i=>(fun (i40:Int)=>(.seq (.seq .no (.cond .no .no)) (.seq (.blk (.seq .no (.cond (.seq .no .no) .no))) (.reg [(1,.bnd)])))) i.2)))) (.seq (.seqk [(0,0)] .no (.blk (.loop (ι:=Nat×Int) (fun i=>(fun (i41:Int)=>(⟨[(0,some (.h 0 0)),(3,some (.h 1 0)),(5,some (.v (vI i41)))],[(0,some (.shr none (.l 1 eStr lines))),(1,some (.own 1 (.l 1 eStr (lines.map F57))))],2⟩:St)) i.2) (Rd lines) (fun i=>i.1) (Qau lines) (fun i=>(fun (i41:Int)=>(.seq (.seq .no (.cond .no .no)) (.seq (.blk (.seq (.reg [(2,.bnd)]) (.cond (.seq .no .no) .no))) (.reg [(1,.bnd)])))) i.2)))) (.seq (.seqk [(0,0),(3,0)] .no (.blk (.loop (ι:=Nat×Int) (fun i=>(fun (i42:Int)=>(⟨[(0,some (.h 0 0)),(3,some (.h 1 0)),(6,some (.v (vI i42)))],[(0,some (.shr none (.l 1 eStr lines))),(1,some (.own 1 (.l 1 eStr (lines.map F57))))],2⟩:St)) i.2) (Rt lines) (fun i=>i.1) (Em lines) (fun i=>(fun (i42:Int)=>(.seq (.seq .no (.cond .no .no)) (.seq (.blk (.seq (.reg [(7,kh39 ((lines.map F57).take i42.toNat) ((lines.map F57).getD i42.toNat default))]) (.cond (.seq .no .no) .no))) (.reg [(1,.bnd)])))) i.2)))) (.seq .no .no))))))) Tryz.func20 (fun (hpre0:∀ k:Nat,(lines.getD k default).size≤1048576)=>kn lines fun _=>ifd ((lines.length:Int)>16) (fun h1 _=>fiI 1 (F20 lines) (condT h1 rfl)) (fun h1 _=>kc38a lines (by first | omega | (simp only [lens,ib] at*<;> omega)) (by first | assumption | exact hpre0 _ | exact fun k _=>hpre0 k | (intros; exact trivial) | (intros; exact Nat.zero_le _)) (kn lines fun _=>kn (lines.map F57) fun _=>ai (en20_0 lines (by first | omega | (simp only [lens,ib] at*<;> omega))) (fun (i0:Nat×Int) (hi0:Qaz lines i0)=>(fun (m0:Nat) (i40:Int) (hh0:Qvx lines i0 m0 i40)=>have hI0:=hh0.1; have hl0:=hh0.2.1; have _:=hh0.2.2.1; have _:=hh0.2.2.2; ifd (i40<(lines.length:Int)) (fun h3 _=>ai (by first | omega | (simp only [lens,ib] at*<;> omega):ib i40 (lines.map F57)) (ifb (((lines.map F57).getD i40.toNat default).toList==w13_.toList) (fun h4=>fiI 2 (F20 lines) (condF h1 (finR (Qr hI0 (condT h3 (condT h4 rfl))) rfl))) (fun h4=>ai (iok (i40+1) (by first | omega | (simp only [lens,ib] at*<;> omega))) (bk20_0 lines i0 m0 (i40+1) hl0 (Qe hI0 (condT h3 (condF h4 rfl))) (by refine ⟨?_,?_⟩ <;> first | omega | (simp only [lens,ib] at*<;> omega)))))) (fun h3 _=>have hD0_5:Ubl lines=Lp.done i40:=Ql hI0 (condF h3 rfl); kn lines fun _=>ai (en20_1 lines (by refine ⟨?_,?_⟩ <;> first | omega | (simp only [lens,ib] at*<;> omega))) (fun (i1:Nat×Int) (hi1:Rd lines i1)=>(fun (m1:Nat) (i41:Int) (hh1:Qyc lines i1 m1 i41)=>have hI1:=hh1.1; have hl1:=hh1.2.1; have _:=hh1.2.2.1; have _:=hh1.2.2.2; ifd (i41<(lines.length:Int)) (fun h7 _=>ai (iok (i41-1) (by first | omega | (simp only [lens,ib] at*<;> omega))) (ai (by first | omega | (simp only [lens,ib] at*<;> omega):ib (i41-1) lines) (ai (by first | omega | (simp only [lens,ib] at*<;> omega):ib i41 lines) (ifb (!(Op.bytesLess (lines.getD (i41-1).toNat default).toList (lines.getD i41.toNat default).toList)) (fun h8=>fiI 3 (F20 lines) (condF h1 (finD hD0_5 (finR (Qr hI1 (condT h7 (condT h8 rfl))) rfl)))) (fun h8=>ai (iok (i41+1) (by first | omega | (simp only [lens,ib] at*<;> omega))) (bk20_1 lines i1 m1 (i41+1) hl1 (Qe hI1 (condT h7 (condF h8 rfl))) (by refine ⟨?_,?_,?_⟩ <;> first | omega | (simp only [lens,ib] at*<;> omega)))))))) (fun h7 _=>have hD1_9:Ube lines=Lp.done i41:=Ql hI1 (condF h7 rfl); kn lines fun _=>kn (lines.map F57) fun _=>ai (en20_2 lines (by first | omega | (simp only [lens,ib] at*<;> omega))) (fun (i2:Nat×Int) (hi2:Rt lines i2)=>(fun (m2:Nat) (i42:Int) (hh2:Qvu lines i2 m2 i42)=>have hI2:=hh2.1; have hl2:=hh2.2.1; have _:=hh2.2.2.1; have _:=hh2.2.2.2; ifd (i42<(lines.length:Int)) (fun h11 _=>ai (by first | omega | (simp only [lens,ib] at*<;> omega):0≤(0:Int)∧(0:Int)≤i42∧i42≤((lines.map F57).length:Int)) (ai (by first | omega | (simp only [lens,ib] at*<;> omega):ib i42 (lines.map F57)) (kc39 ((lines.map F57).take i42.toNat) ((lines.map F57).getD i42.toNat default) (ifb (F39 ((lines.map F57).take i42.toNat) ((lines.map F57).getD i42.toNat default)) (fun h12=>fiI 4 (F20 lines) (condF h1 (finD hD0_5 (finD hD1_9 (finR (Qr hI2 (condT h11 (condT h12 rfl))) rfl))))) (fun h12=>ai (iok (i42+1) (by first | omega | (simp only [lens,ib] at*<;> omega))) (bk20_2 lines i2 m2 (i42+1) hl2 (Qe hI2 (condT h11 (condF h12 rfl))) (by refine ⟨?_,?_⟩ <;> first | omega | (simp only [lens,ib] at*<;> omega)))))))) (fun h11 _=>have hD2_13:Uaf lines=Lp.done i42:=Ql hI2 (condF h11 rfl); fiI 0 (F20 lines) (condF h1 (finD hD0_5 (finD hD1_9 (finD hD2_13 rfl)))))) (i2.1-1) i2.2 (un20_2 lines i2 hi2)))) (i1.1-1) i1.2 (un20_1 lines i1 hi1)))) (i0.1-1) i0.2 (un20_0 lines i0 hi0))))) (by kernel_rfl)
instance baLawful:LawfulBEq ByteArray where
 eq_of_beq h:=(Go.MapKept.bytes_beq _ _).1 h
 rfl:=(Go.MapKept.bytes_beq _ _).2 rfl
theorem Qvd (l:ByteArray) (h:F77 l=false):F57 l=(⟨#[]⟩:ByteArray):=by
 unfold F57
 rw [h]; rfl
theorem Qeq (l:ByteArray):((F57 l).toList==(⟨#[]⟩:ByteArray).toList)=!F77 l:=by
 cases h:F77 l with
 | false=>rw [Qvd l h]; rw [Qgo]; rfl
 | true =>
  rw [Ua,Ua,Qyd l h,Bool.not_true,beq_eq_false_iff_ne]
  have hk:=Gr l h
  have hl:=Xw _ hk.form
  have hn:=Pe _ hk.form
  have hno:=hk.no
  generalize (F40 l).1=w at hl hn hno
  match w,hl with
  | a :: r,_ =>
   have e:((keyN (((a :: r).getD 0 default).data.toList)).toNat)=(keyN (((a :: r).getD 0 default).data.toList)).toNat-1+1:=by omega
   rw [e,List.take_succ_cons,Hh,List.map_cons,Lib.join_cons]
   intro h0
   exact (hno a List.mem_cons_self).2.1 (List.append_eq_nil_iff.1 h0).1
def dupK:List ByteArray→List ByteArray→Bool
 | _,[]=>false
 | seen,s :: r=>decide (s∈seen) || dupK (seen++[s]) r
def insK (ks:List ByteArray) (s:ByteArray):List ByteArray:=if s∈ks then ks else ks++[s]
theorem Qov:∀ (keys ks:List ByteArray),(keys.foldl insK ks).length≤ks.length+keys.length
 | [],ks=>by simp
 | s :: r,ks=>by
  rw [List.foldl_cons]
  have h:=Qov r (insK ks s)
  have h2:(insK ks s).length≤ks.length+1:=by unfold insK; split <;> simp
  simp only [List.length_cons]; omega
theorem Qif:∀ (keys ks seen:List ByteArray),(∀ s,s∈ks↔s∈seen)→decide ((keys.foldl insK ks).length<ks.length+keys.length)=dupK seen keys
 | [],ks,seen,_=>by simp [dupK]
 | s :: r,ks,seen,h=>by
  rw [List.foldl_cons,dupK]
  by_cases hs:s∈ks
  ·have e:insK ks s=ks:=by unfold insK; rw [if_pos hs]
   rw [e,decide_eq_true ((h s).1 hs),Bool.true_or]
   have:=Qov r ks
   exact decide_eq_true (by simp only [List.length_cons]; omega)
  ·have e:insK ks s=ks++[s]:=by unfold insK; rw [if_neg hs]
   rw [e,decide_eq_false (fun x=>hs ((h s).2 x)),Bool.false_or,← Qif r (ks++[s]) (seen++[s]) (fun t=>by simp [h t])]
   congr 1
   simp only [List.length_append,List.length_cons,List.length_nil]
   exact propext ⟨fun x=>by omega,fun x=>by omega⟩
theorem Qdz {α:Type}:∀ (m:ML α) (s:ByteArray) (x:α),(putM m s x).map (·.1)=insK (m.map (·.1)) s
 | [],s,x=>by simp [putM,insK]
 | p :: m,s,x=>by
  rw [putM]
  by_cases h:p.1=s
  ·rw [if_pos h]; subst h; simp [insK]
  ·rw [if_neg h,List.map_cons,Qdz m s x]
   unfold insK
   have h':¬ s=p.1:=fun e=>h e.symm
   by_cases hm:s∈m.map (·.1)
   ·rw [if_pos hm,List.map_cons,if_pos (List.mem_cons_of_mem _ hm)]
   ·rw [if_neg hm,List.map_cons,if_neg (by simp only [List.mem_cons,not_or]; exact ⟨h',hm⟩)]; rfl
theorem Rj {α:Type} (f:ByteArray→ByteArray) (v:ByteArray→α):∀ (ls:List ByteArray) (m:ML α),(ls.foldl (fun m l=>putM m (f l) (v l)) m).map (·.1)=(ls.map f).foldl insK (m.map (·.1))
 | [],m=>rfl
 | l :: ls,m=>by
  rw [List.foldl_cons,Rj f v ls,Qdz,List.map_cons,List.foldl_cons]
theorem Qhz (ws:List ByteArray) (x:ByteArray):F39 ws x=decide (x∈ws):=by
 rw [Qal,Bool.eq_iff_iff,List.any_eq_true,decide_eq_true_eq]
 constructor
 ·rintro ⟨e,he,h⟩
  rw [Qgo,decide_eq_true_eq] at h
  exact h ▸ he
 ·exact fun h=>⟨x,h,by rw [Qgo]; exact decide_eq_true rfl⟩
theorem Qhm (keys:List ByteArray):∀ (m i:Nat),i+m=keys.length→anyF (fun k=>decide (keys.getD k default∈keys.take k)) i m=dupK (keys.take i) (keys.drop i)
 | 0,i,h=>by rw [List.drop_of_length_le (by omega)]; rfl
 | m+1,i,h=>by
  have hd:keys.drop i=keys.getD i default :: keys.drop (i+1):=by
   rw [List.drop_eq_getElem_cons (show i<keys.length by omega),List.getD_eq_getElem?_getD,List.getElem?_eq_getElem (show i<keys.length by omega)]; rfl
  rw [hd,dupK,anyF,Qhm keys m (i+1) (by omega),Mx (show i<keys.length by omega)]
theorem Qhb (f:ByteArray→ByteArray) (ls:List ByteArray) (i:Nat) (h:i<ls.length):(ls.map f).getD i default=f (ls.getD i default):=by
 rw [Ko _ (by simpa using h),Ko _ h,List.getElem_map]
theorem Qna {α:Type} {p q:α→Bool} {xs:List α} (h:∀ x,p x=q x):xs.any p=xs.any q:=by rw [show p=q from funext h]
theorem Qcu (lines:List ByteArray):F66 lines=F20 lines:=by
 unfold F66 F20
 have hkept:∀ x:ByteArray,F80 x=!F77 x:=fun x=>by unfold F80; rw [Vb]
 cases h16:decide ((lines.length:Int)>16) with
 | true=>rfl
 | false =>
 rw [cond_false,cond_false]
 have h0:=anyL lines (fun l=>!F77 l) (2:Int) (Ws lines) (fun i hi=>by
  simp only [Ws,ltD hi,cond_true,nn,Qhb _ _ _ hi,Qeq]
  rfl) (by simp only [Ws,geD,cond_false]) (fun r=>r) (fun _=>(runL (Xk lines) ((Int.toNat ((lines.length:Int)-1))+1) 1).fin (fun r=>r) (fun i41=>(runL (Jp lines) ((Int.toNat ((lines.length:Int)-0))+1) 0).fin (fun r=>r) (fun i42=>0))) _ (fun _=>rfl)
 rw [h0]
 have e1:(lines.any fun x0=>F80 x0)=lines.any fun l=>!F77 l:=Qna hkept
 rw [e1]
 cases (lines.any fun l=>!F77 l) with
 | true=>rfl
 | false =>
 rw [cond_false,cond_false]
 have e2:Nk lines=Xk lines:=rfl
 rw [e2]
 congr 1
 funext i
 have h2:=Yu (Jp lines) lines.length (fun k=>decide ((lines.map F57).getD k default∈(lines.map F57).take k)) (4:Int) (fun r=>r) (0:Int) (fun i hi=>by
  simp only [Jp,ltD hi,cond_true,nn,Qhz]; rfl) (by simp only [Jp,geD,cond_false]) lines.length 0 (by omega) (Int.toNat ((lines.length:Int)-0)+1) (by omega)
 rw [Qhm (lines.map F57) lines.length 0 (by simp),List.take_zero,List.drop_zero] at h2
 refine Eq.trans ?_ h2.symm
 have h3:=Uz lines (fun (m:ML Bool) l=>putM m (F57 l) true) (fun m i=>(i,m)) (Xc lines) (fun i s hi=>by
  simp only [Xc,ltD hi,cond_true,nn,Qtz]; rfl) (fun s=>by simp only [Xc,geD,cond_false]) Lp.ret (fun (v31,ms)=>Lp.done ms) ([]:ML Bool)
 have h4:Ep lines=Lp.done (lines.foldl (fun (m:ML Bool) l=>putM m (F57 l) true) []):=h3
 rw [h4]
 show (bif decide (((lines.foldl (fun (m:ML Bool) l=>putM m (F57 l) true) []).length:Int)<(lines.length:Int)) then (4:Int) else 0)=_
 have h5:=Qif (lines.map F57) [] [] (fun s=>Iff.rfl)
 have h6:(lines.foldl (fun (m:ML Bool) l=>putM m (F57 l) true) []).length=((lines.map F57).foldl insK []).length:=by
  have:=congrArg List.length (Rj F57 (fun _=>true) lines [])
  rw [List.length_map] at this
  exact this
 rw [← h5,h6]
 congr 1
 simp only [List.length_nil,Nat.zero_add,List.length_map]
 exact decide_eq_decide.2 (by omega)
theorem Hv (lines:List ByteArray) (h:F20 lines=0):lines.length≤16∧∀ l∈lines,F77 l=true:=by
 unfold F20 at h
 cases h16:decide ((lines.length:Int)>16) with
 | true=>rw [h16,cond_true] at h; exact absurd h (by decide)
 | false =>
 rw [h16,cond_false] at h
 have h0:=anyL lines (fun l=>!F77 l) (2:Int) (Ws lines) (fun i hi=>by
  simp only [Ws,ltD hi,cond_true,nn,Qhb _ _ _ hi,Qeq]
  rfl) (by simp only [Ws,geD,cond_false]) (fun r=>r) (fun _=>(runL (Xk lines) ((Int.toNat ((lines.length:Int)-1))+1) 1).fin (fun r=>r) (fun i41=>(runL (Jp lines) ((Int.toNat ((lines.length:Int)-0))+1) 0).fin (fun r=>r) (fun i42=>0))) _ (fun _=>rfl)
 rw [h0] at h
 cases ha:(lines.any fun l=>!F77 l) with
 | true=>rw [ha,cond_true] at h; exact absurd h (by decide)
 | false =>
  have h1:=of_decide_eq_false h16
  refine ⟨by omega,fun l hl=>?_⟩
  have:=List.any_eq_false.1 ha l hl
  cases hk:F77 l with
  | true=>rfl
  | false=>rw [hk] at this; exact absurd rfl this
theorem Vy (lines:List ByteArray) (h:F20 lines=0):lines.length≤16:=(Hv lines h).1
theorem Rs (lines:List ByteArray) (word:ByteArray) (h:lines.length≤16):(Qb lines word).length≤16:=by
 unfold Qb
 have:=List.length_filter_le (fun w:List ByteArray=>(w.getD 0 default).data.toList==word.data.toList) (lines.map fun l=>Qy l (⟨#[32]⟩:ByteArray))
 rw [List.length_map] at this
 omega
theorem Qah (l:ByteArray) (h:F77 l=true):Qy l (⟨#[32]⟩:ByteArray)=(F40 l).1:=(Gr l h).splits
theorem Qad {lines:List ByteArray} {word:ByteArray} {w:List ByteArray} (h:F20 lines=0) (hw:w∈Qb lines word):∃ l∈lines,Qxc l w∧(w.getD 0 default).data.toList=word.data.toList:=by
 obtain ⟨h1,h2⟩:=List.mem_filter.1 hw
 obtain ⟨l,hl,rfl⟩:=List.mem_map.1 h1
 have hk:=(Hv lines h).2 l hl
 refine ⟨l,hl,?_,eq_of_beq h2⟩
 rw [Qah l hk]
 exact Gr l hk
theorem Ut {lines:List ByteArray} {word:ByteArray} (h:F20 lines=0) {k:Nat} (hk:k<(Qb lines word).length):We ((Qb lines word).getD k default)∧(((Qb lines word).getD k default).getD 0 default).data.toList=word.data.toList:=by
 obtain ⟨l,hl,h1,h2⟩:=Qad h (Zl _ hk)
 exact ⟨h1.form,h2⟩
theorem Qiq (lines:List ByteArray) (word:ByteArray) (h:F20 lines=0) (k j:Nat):(((Qb lines word).getD k default).getD j default).size≤24:=by
 by_cases hk:k<(Qb lines word).length
 ·obtain ⟨l,hl,h1,h2⟩:=Qad h (Zl _ hk)
  by_cases hj:j<((Qb lines word).getD k default).length
  ·exact (h1.no _ (Zl _ hj)).2.2
  ·rw [Zs _ (show ((Qb lines word).getD k default).length≤j by omega)]; exact Nat.zero_le _
 ·rw [Zs _ (show (Qb lines word).length≤k by omega)]; exact Nat.zero_le _
theorem Ym (lines:List ByteArray) (word:ByteArray) (h:F20 lines=0) (k j:Nat):(((Qb lines word).getD k default).getD j default).size≤1048576:=Nat.le_trans (Qiq lines word h k j) (by decide)
theorem Ued {w:List ByteArray} (h:We w) (h0:(w.getD 0 default).data.toList=[117,115,101,114]):Wf w:=by
 rcases h with h | h | h | h | h | h | h | h
 ·exact absurd (h0.symm.trans h.1) (by decide)
 ·exact h
 ·exact absurd (h0.symm.trans h.1) (by decide)
 ·exact absurd (h0.symm.trans h.1) (by decide)
 ·exact absurd (h0.symm.trans h.1) (by decide)
 ·exact absurd (h0.symm.trans h.1) (by decide)
 ·exact absurd (h0.symm.trans h.1) (by decide)
 ·exact absurd (h0.symm.trans h.1) (by decide)
theorem Ufd (lines:List ByteArray) (h:F20 lines=0):∀ k:Nat,k<(Qb lines (⟨#[117,115,101,114]⟩:ByteArray)).length→Wf ((Qb lines (⟨#[117,115,101,114]⟩:ByteArray)).getD k default):=fun k hk=>Ued (Ut h hk).1 (Ut h hk).2
theorem Rb {w:List ByteArray} (h:We w) (h0:(w.getD 0 default).data.toList=[112,111,114,116]):Zv w:=by
 rcases h with h | h | h | h | h | h | h | h
 ·exact absurd (h0.symm.trans h.1) (by decide)
 ·exact absurd (h0.symm.trans h.1) (by decide)
 ·exact h
 ·exact absurd (h0.symm.trans h.1) (by decide)
 ·exact absurd (h0.symm.trans h.1) (by decide)
 ·exact absurd (h0.symm.trans h.1) (by decide)
 ·exact absurd (h0.symm.trans h.1) (by decide)
 ·exact absurd (h0.symm.trans h.1) (by decide)
theorem Qpa (lines:List ByteArray) (h:F20 lines=0):∀ k:Nat,k<(Qb lines (⟨#[112,111,114,116]⟩:ByteArray)).length→Zv ((Qb lines (⟨#[112,111,114,116]⟩:ByteArray)).getD k default):=fun k hk=>Rb (Ut h hk).1 (Ut h hk).2
theorem Ufj {w:List ByteArray} (h:We w) (h0:(w.getD 0 default).data.toList=[114,117,108,101]):Ks w:=by
 rcases h with h | h | h | h | h | h | h | h
 ·exact absurd (h0.symm.trans h.1) (by decide)
 ·exact absurd (h0.symm.trans h.1) (by decide)
 ·exact absurd (h0.symm.trans h.1) (by decide)
 ·exact h
 ·exact absurd (h0.symm.trans h.1) (by decide)
 ·exact absurd (h0.symm.trans h.1) (by decide)
 ·exact absurd (h0.symm.trans h.1) (by decide)
 ·exact absurd (h0.symm.trans h.1) (by decide)
theorem Qph (lines:List ByteArray) (h:F20 lines=0):∀ k:Nat,k<(Qb lines (⟨#[114,117,108,101]⟩:ByteArray)).length→Ks ((Qb lines (⟨#[114,117,108,101]⟩:ByteArray)).getD k default):=fun k hk=>Ufj (Ut h hk).1 (Ut h hk).2
theorem Uaz {w:List ByteArray} (h:We w) (h0:(w.getD 0 default).data.toList=[114,111,117,116,101]):Jo w:=by
 rcases h with h | h | h | h | h | h | h | h
 ·exact absurd (h0.symm.trans h.1) (by decide)
 ·exact absurd (h0.symm.trans h.1) (by decide)
 ·exact absurd (h0.symm.trans h.1) (by decide)
 ·exact absurd (h0.symm.trans h.1) (by decide)
 ·exact h
 ·exact absurd (h0.symm.trans h.1) (by decide)
 ·exact absurd (h0.symm.trans h.1) (by decide)
 ·exact absurd (h0.symm.trans h.1) (by decide)
theorem Quq (lines:List ByteArray) (h:F20 lines=0):∀ k:Nat,k<(Qb lines (⟨#[114,111,117,116,101]⟩:ByteArray)).length→Jo ((Qb lines (⟨#[114,111,117,116,101]⟩:ByteArray)).getD k default):=fun k hk=>Uaz (Ut h hk).1 (Ut h hk).2
theorem Ucz {w:List ByteArray} (h:We w) (h0:(w.getD 0 default).data.toList=[112,101,101,114]):Hq w:=by
 rcases h with h | h | h | h | h | h | h | h
 ·exact absurd (h0.symm.trans h.1) (by decide)
 ·exact absurd (h0.symm.trans h.1) (by decide)
 ·exact absurd (h0.symm.trans h.1) (by decide)
 ·exact absurd (h0.symm.trans h.1) (by decide)
 ·exact absurd (h0.symm.trans h.1) (by decide)
 ·exact h
 ·exact absurd (h0.symm.trans h.1) (by decide)
 ·exact absurd (h0.symm.trans h.1) (by decide)
theorem Ufk (lines:List ByteArray) (h:F20 lines=0):∀ k:Nat,k<(Qb lines (⟨#[112,101,101,114]⟩:ByteArray)).length→Hq ((Qb lines (⟨#[112,101,101,114]⟩:ByteArray)).getD k default):=fun k hk=>Ucz (Ut h hk).1 (Ut h hk).2
theorem Uby {w:List ByteArray} (h:We w) (h0:(w.getD 0 default).data.toList=[110,97,116]):natP w:=by
 rcases h with h | h | h | h | h | h | h | h
 ·exact absurd (h0.symm.trans h.1) (by decide)
 ·exact absurd (h0.symm.trans h.1) (by decide)
 ·exact absurd (h0.symm.trans h.1) (by decide)
 ·exact absurd (h0.symm.trans h.1) (by decide)
 ·exact absurd (h0.symm.trans h.1) (by decide)
 ·exact absurd (h0.symm.trans h.1) (by decide)
 ·exact h
 ·exact absurd (h0.symm.trans h.1) (by decide)
theorem Qfq (lines:List ByteArray) (h:F20 lines=0):∀ k:Nat,k<(Qb lines (⟨#[110,97,116]⟩:ByteArray)).length→natP ((Qb lines (⟨#[110,97,116]⟩:ByteArray)).getD k default):=fun k hk=>Uby (Ut h hk).1 (Ut h hk).2
theorem Ucp {w:List ByteArray} (h:We w) (h0:(w.getD 0 default).data.toList=[100,111,111,114]):Kr w:=by
 rcases h with h | h | h | h | h | h | h | h
 ·exact absurd (h0.symm.trans h.1) (by decide)
 ·exact absurd (h0.symm.trans h.1) (by decide)
 ·exact absurd (h0.symm.trans h.1) (by decide)
 ·exact absurd (h0.symm.trans h.1) (by decide)
 ·exact absurd (h0.symm.trans h.1) (by decide)
 ·exact absurd (h0.symm.trans h.1) (by decide)
 ·exact absurd (h0.symm.trans h.1) (by decide)
 ·exact h
theorem Gn (lines:List ByteArray) (h:F20 lines=0):∀ k:Nat,k<(Qb lines (⟨#[100,111,111,114]⟩:ByteArray)).length→Kr ((Qb lines (⟨#[100,111,111,114]⟩:ByteArray)).getD k default):=fun k hk=>Ucp (Ut h hk).1 (Ut h hk).2
theorem Gq (lines:List ByteArray) (word:ByteArray) {K_:Prop} (p0_:lines.length≤1048576) (p1_:∀ k:Nat,(lines.getD k default).size≤1048576) (q0_:lines.length≤16) (k_:((Qb lines word).length≤16)→K_):(lines.length≤1048576∧(∀ k:Nat,(lines.getD k default).size≤1048576))∧(Imp (.l 1 eStr lines) (.l 1 eStr lines))∧(Imp (.v (.string word)) (.v (.string word)))∧K_:=⟨⟨p0_,p1_⟩,Imp.refl _,Imp.refl _,k_ (Rs lines word q0_)⟩
abbrev kh35a (lines:List ByteArray) (word:ByteArray):Hint true Tryz.prog:=.call 35 (T35 (Qb lines word) lines word) (oa35 lines word) none
abbrev Vi (lines:List ByteArray) (word:ByteArray):Hint false Tryz.prog:=.call 35 (T35 (Qb lines word) lines word) ((oa35 lines word).to false) none
def Xs (lines:List ByteArray):(List Qa×Int)→Lp (List Qa×Int) (List Qa):=fun (out,v12) =>
 bif (decide (v12<((Qb lines (⟨#[112,111,114,116]⟩:ByteArray)).length:Int))) then (.next ((out++[(⟨(F36 (((Qb lines (⟨#[112,111,114,116]⟩:ByteArray)).getD (Int.toNat v12) default).getD (Int.toNat 2) default)).1.Addr,(F36 (((Qb lines (⟨#[112,111,114,116]⟩:ByteArray)).getD (Int.toNat v12) default).getD (Int.toNat 2) default)).1.Len⟩:Qa)]),(v12+1))) else (.done (out,v12))
def F87 (lines:List ByteArray):List Qa :=
 (runL (Xs lines) ((Int.toNat (((Qb lines (⟨#[112,111,114,116]⟩:ByteArray)).length:Int)-0))+1) (([]:List Qa),0)).fin (fun r=>r) (fun (out,v12)=>out)
abbrev Rx (lines:List ByteArray):Nat×(List Qa×Int):=(((Int.toNat (((Qb lines (⟨#[112,111,114,116]⟩:ByteArray)).length:Int)-0))+1),(([]:List Qa),0))
abbrev Qlb (lines:List ByteArray) (m39:Nat) (out:List Qa) (v12:Int):Prop:=Int.toNat (((Qb lines (⟨#[112,111,114,116]⟩:ByteArray)).length:Int)-v12)<m39∧(out.length:Int)≤v12∧(0:Int)≤v12
abbrev Qya (lines:List ByteArray):Lp (List Qa×Int) (List Qa):=LpX (Xs lines) (Rx lines)
abbrev Qav (lines:List ByteArray) (i:Nat×(List Qa×Int)):Prop:=LpJ (Xs lines) (Rx lines) i (Qlb lines i.1 i.2.1 i.2.2)
abbrev Quf (lines:List ByteArray) (i:Nat×(List Qa×Int)) (m39:Nat) (out:List Qa) (v12:Int):Prop:=LpH (Xs lines) (Rx lines) i m39 (out,v12) (Qlb lines (m39+1) out v12)
abbrev Qto (lines:List ByteArray) (out:List Qa) (v12:Int) (out_:List Qa) (v12_:Int) (K39:Prop):Prop:=(Rf (.int .i64 ((Qb lines (⟨#[112,111,114,116]⟩:ByteArray)).length:Int)))∧((.int .i64 v12:Value)=.int .i64 v12_)∧(Imp (.l 2 Qh out) (.l 2 Qh out_))∧(Im (.l 1 (eL 1 eStr) (Qb lines (⟨#[112,111,114,116]⟩:ByteArray))))∧K39
theorem un87_0 (lines:List ByteArray) (i:Nat×(List Qa×Int)) (h:Qav lines i):Quf lines i (i.1-1) i.2.1 i.2.2:=⟨hd1 h.1 h.2.1,hd3 h.2.1,hd2 h.2.1,h.2.2⟩
theorem bk87_0 (lines:List ByteArray) (i:Nat×(List Qa×Int)) (m39:Nat) (out:List Qa) (v12:Int) (hl:m39<i.1) (e:runL (Xs lines) m39 (out,v12)=Qya lines) (h:Qlb lines m39 out v12):∃ j:Nat×(List Qa×Int),Qto lines out v12 j.2.1 j.2.2 (Qav lines j∧j.1<i.1):=⟨(m39,(out,v12)),rfl,rfl,Imp.refl _,Imp.refl _,⟨e,h⟩,hl⟩
theorem en87_0 (lines:List ByteArray) (h:(([]:List Qa).length:Int)≤0∧(0:Int)≤0):Qto lines ([]:List Qa) 0 ([]:List Qa) 0 (Qav lines (Rx lines)):=⟨rfl,rfl,Imp.refl _,Imp.refl _,rfl,Nat.lt_succ_self _,h⟩
theorem fi87 (lines:List ByteArray) (r:List Qa) (hF:r=(F87 lines)):(Imp (.l 2 Qh r) (.l 2 Qh (F87 lines)))∧True:=by cases hF; exact ⟨Imp.refl _,trivial⟩
def S87 (R:List Qa) (lines:List ByteArray):Spec:=⟨[.r (.c (.l 1 eStr lines))],.ow (.l 2 Qh R),F20 lines=0∧lines.length≤16∧(∀ k:Nat,(lines.getD k default).size≤1048576)⟩
theorem ok87 (lines:List ByteArray):(S87 (F87 lines) lines).ok Tryz.prog 87 false :=
 Qi mixed (fn:=Tryz.f87) (ct:=.seqk [(0,0)] .no (.seq (.reg [(0,.dat (.l 2 Qh ([]:List Qa)))]) (.seq (.seqk [(3,0),(10,0)] (.reg [(1,Vi lines (⟨#[112,111,114,116]⟩:ByteArray))]) (.blk (.loop (ι:=Nat×(List Qa×Int)) (fun i=>(fun (out:List Qa) (v12:Int)=>(⟨[(3,some (.h 0 0)),(10,some (.h 1 0)),(11,some (.v (vI ((Qb lines (⟨#[112,111,114,116]⟩:ByteArray)).length:Int)))),(12,some (.v (vI v12)))],[(0,some (.own 0 (.l 2 Qh out))),(1,some (.own 1 (.l 1 (eL 1 eStr) (Qb lines (⟨#[112,111,114,116]⟩:ByteArray)))))],2⟩:St)) i.2.1 i.2.2) (Qav lines) (fun i=>i.1) (Rx lines) (fun i=>(fun (out:List Qa) (v12:Int)=>(.seq .no (.seq (.cond .no .no) (.seq (.blk (.seq .no (.seq (.reg [(3,kh36 (((Qb lines (⟨#[112,111,114,116]⟩:ByteArray)).getD (Int.toNat v12) default).getD (Int.toNat 2) default))]) (.reg [(3,.dat (.l 2 Qh (out++[(⟨(F36 (((Qb lines (⟨#[112,111,114,116]⟩:ByteArray)).getD (Int.toNat v12) default).getD (Int.toNat 2) default)).1.Addr,(F36 (((Qb lines (⟨#[112,111,114,116]⟩:ByteArray)).getD (Int.toNat v12) default).getD (Int.toNat 2) default)).1.Len⟩:Qa)])))])))) (.reg [(0,.bnd)]))))) i.2.1 i.2.2)))) (.seq .no .no)))) Tryz.func87 (fun (hp:F20 lines=0∧lines.length≤16∧(∀ k:Nat,(lines.getD k default).size≤1048576))=>have hpre0:=hp.1; have hpre1:=hp.2.1; have hpre2:=hp.2.2; kn lines fun _=>ai (bokr 2 Qh ([]:List Qa) fun _=>rfl) (Gq lines (⟨#[112,111,114,116]⟩:ByteArray) (by omega) (by assumption) (by omega) (fun gv1=>kn ([]:List Qa) fun _=>kn (Qb lines (⟨#[112,111,114,116]⟩:ByteArray)) fun _=>ai (en87_0 lines (by refine ⟨?_,?_⟩ <;> (simp only [lens,ib] at*<;> omega))) (fun (i0:Nat×(List Qa×Int)) (hi0:Qav lines i0)=>(fun (m0:Nat) (out:List Qa) (v12:Int) (hh0:Quf lines i0 m0 out v12)=>have hI0:=hh0.1; have hl0:=hh0.2.1; have _:=hh0.2.2.1; have _:=hh0.2.2.2; ifd (v12<((Qb lines (⟨#[112,111,114,116]⟩:ByteArray)).length:Int)) (fun h3 _=>ai (by (omega):0≤v12∧v12<((Qb lines (⟨#[112,111,114,116]⟩:ByteArray)).length:Int)) (ai (by (have h9:=Qpa lines (by omega) (Int.toNat v12) (by omega); unfold Zv at h9; omega):0≤(2:Int)∧(2:Int)<(((Qb lines (⟨#[112,111,114,116]⟩:ByteArray)).getD (Int.toNat v12) default).length:Int)) (kc36 (((Qb lines (⟨#[112,111,114,116]⟩:ByteArray)).getD (Int.toNat v12) default).getD (Int.toNat 2) default) (by exact Ym lines _ (by omega) _ _) (ai (appr 2 Qh out [(⟨(F36 (((Qb lines (⟨#[112,111,114,116]⟩:ByteArray)).getD (Int.toNat v12) default).getD (Int.toNat 2) default)).1.Addr,(F36 (((Qb lines (⟨#[112,111,114,116]⟩:ByteArray)).getD (Int.toNat v12) default).getD (Int.toNat 2) default)).1.Len⟩:Qa)] fun _=>rfl) (ai (by (try simp only [lens]); omega:(out++[(⟨(F36 (((Qb lines (⟨#[112,111,114,116]⟩:ByteArray)).getD (Int.toNat v12) default).getD (Int.toNat 2) default)).1.Addr,(F36 (((Qb lines (⟨#[112,111,114,116]⟩:ByteArray)).getD (Int.toNat v12) default).getD (Int.toNat 2) default)).1.Len⟩:Qa)]).length*16≤140737488355328) (ai (iok (v12+1) (by omega)) (bk87_0 lines i0 m0 (out++[(⟨(F36 (((Qb lines (⟨#[112,111,114,116]⟩:ByteArray)).getD (Int.toNat v12) default).getD (Int.toNat 2) default)).1.Addr,(F36 (((Qb lines (⟨#[112,111,114,116]⟩:ByteArray)).getD (Int.toNat v12) default).getD (Int.toNat 2) default)).1.Len⟩:Qa)]) (v12+1) hl0 (Qe hI0 (condT h3 rfl)) (by refine ⟨?_,?_,?_⟩ <;> (simp only [lens,ib] at*<;> omega))))))))) (fun h3 _=>have hD0_4:Qya lines=Lp.done (out,v12):=Ql hI0 (condF h3 rfl); fi87 lines out (finD hD0_4 rfl))) (i0.1-1) i0.2.1 i0.2.2 (un87_0 lines i0 hi0))))) (by kernel_rfl)
def F84 (w1:List ByteArray):Bool :=
 ((w1.getD (Int.toNat 2) default).toList==(⟨#[97,108,108]⟩:ByteArray).toList)
def S84 (w1:List ByteArray):Spec:=⟨[.r (.c (.l 1 eStr w1))],.v (.bool (F84 w1)),Wf w1⟩
theorem ok84 (w1:List ByteArray):(S84 w1).ok Tryz.prog 84 :=
 Qi mixed (fn:=Tryz.f84) (ct:=.seqk [(0,0)] .no (.seq .no .no)) Tryz.func84 (fun (hpre0:Wf w1)=>kn w1 fun _=>ai (by (have h9:=hpre0; unfold Wf at h9; omega):0≤(2:Int)∧(2:Int)<(w1.length:Int)) (fiB ((w1.getD (Int.toNat 2) default).toList==(⟨#[97,108,108]⟩:ByteArray).toList) (F84 w1) rfl)) (by kernel_rfl)
def Jw (Q:(List ByteArray)→Prop) (p:(List ByteArray)→Bool):Ye:=⟨List ByteArray,fun i=>[.c (.x (PX (.l 1 eStr i) (Q i)))],fun i=>.bool (p i)⟩
def Bw (s:List (List ByteArray)) (f:(List ByteArray)→Bool):Int→Lp Int Int:=fun v8 =>
 bif (decide (v8<(s.length:Int))) then (bif (f (s.getD (Int.toNat v8) default)) then (.ret v8) else (.next (v8+1))) else (.done v8)
def F107 (s:List (List ByteArray)) (f:(List ByteArray)→Bool):Int :=
 (runL (Bw s f) ((Int.toNat ((s.length:Int)-0))+1) 0).fin (fun r=>r) (fun v8=>(-1))
abbrev La (s:List (List ByteArray)):Nat×Int:=(((Int.toNat ((s.length:Int)-0))+1),0)
abbrev Qfp (s:List (List ByteArray)) (m39:Nat) (v8:Int):Prop:=Int.toNat ((s.length:Int)-v8)<m39∧(0:Int)≤v8
abbrev Qqc (s:List (List ByteArray)) (f:(List ByteArray)→Bool):Lp Int Int:=LpX (Bw s f) (La s)
abbrev Me (s:List (List ByteArray)) (f:(List ByteArray)→Bool) (i:Nat×Int):Prop:=LpJ (Bw s f) (La s) i (Qfp s i.1 i.2)
abbrev Qny (s:List (List ByteArray)) (f:(List ByteArray)→Bool) (i:Nat×Int) (m39:Nat) (v8:Int):Prop:=LpH (Bw s f) (La s) i m39 v8 (Qfp s (m39+1) v8)
abbrev Qpr (Qf:(List ByteArray)→Prop) (s:List (List ByteArray)) (f:(List ByteArray)→Bool) (v8:Int) (v8_:Int) (K39:Prop):Prop:=(Rf (.int .i64 (s.length:Int)))∧((.int .i64 v8:Value)=.int .i64 v8_)∧(Im (.l 1 (eL 1 eStr) s))∧(Jw Qf f=Jw Qf f)∧K39
theorem Uee (s:List (List ByteArray)) (f:(List ByteArray)→Bool) (i:Nat×Int) (h:Me s f i):Qny s f i (i.1-1) i.2:=⟨hd1 h.1 h.2.1,hd3 h.2.1,hd2 h.2.1,h.2.2⟩
theorem Udc (Qf:(List ByteArray)→Prop) (s:List (List ByteArray)) (f:(List ByteArray)→Bool) (i:Nat×Int) (m39:Nat) (v8:Int) (hl:m39<i.1) (e:runL (Bw s f) m39 v8=Qqc s f) (h:Qfp s m39 v8):∃ j:Nat×Int,Qpr Qf s f v8 j.2 (Me s f j∧j.1<i.1):=⟨(m39,v8),rfl,rfl,Imp.refl _,rfl,⟨e,h⟩,hl⟩
theorem Uej (Qf:(List ByteArray)→Prop) (s:List (List ByteArray)) (f:(List ByteArray)→Bool) (h:(0:Int)≤0):Qpr Qf s f 0 0 (Me s f (La s)):=⟨rfl,rfl,Imp.refl _,rfl,rfl,Nat.lt_succ_self _,h⟩
def S107 (R:Int) (s:List (List ByteArray)) (f:(List ByteArray)→Bool) (Qf:(List ByteArray)→Prop):Spec:=⟨[.r (.c (.l 1 (eL 1 eStr) s)),.fn (Jw Qf f)],.v (vI R),(∀ k:Nat,k<s.length→Qf (s.getD k default))⟩
theorem ok107 (s:List (List ByteArray)) (f:(List ByteArray)→Bool) (Qf:(List ByteArray)→Prop):(S107 (F107 s f) s f Qf).ok Tryz.prog 107 false :=
 Qi mixed (fn:=Tryz.f107) (ct:=.seqk [(0,0)] .no (.seq (.seqk [(0,0)] .no (.blk (.loop (ι:=Nat×Int) (fun i=>(fun (v8:Int)=>(⟨[(0,some (.h 0 0)),(1,some (.h 1 0)),(7,some (.v (vI (s.length:Int)))),(8,some (.v (vI v8)))],[(0,some (.shr none (.l 1 (eL 1 eStr) s))),(1,some (.fn (Jw Qf f)))],2⟩:St)) i.2) (Me s f) (fun i=>i.1) (La s) (fun i=>(fun (v8:Int)=>(.seq .no (.seq (.cond .no .no) (.seq (.blk (.seq .no (.seq (.reg [(5,.fnv (Jw Qf f) (s.getD (Int.toNat v8) default))]) (.cond (.seq .no .no) .no)))) (.reg [(0,.bnd)]))))) i.2)))) (.seq .no .no))) Tryz.func107 (fun (hpre0:∀ k:Nat,k<s.length→Qf (s.getD k default))=>kn s fun _=>kn s fun _=>ai (Uej Qf s f (by omega)) (fun (i0:Nat×Int) (hi0:Me s f i0)=>(fun (m0:Nat) (v8:Int) (hh0:Qny s f i0 m0 v8)=>have hI0:=hh0.1; have hl0:=hh0.2.1; have _:=hh0.2.2.1; have _:=hh0.2.2.2; ifd (v8<(s.length:Int)) (fun h2 _=>ai (by omega:ib v8 s) (ai (Eq.refl (Jw Qf f)) (ai (Imp.px (d:=.l 1 eStr (s.getD (Int.toNat v8) default)) (hpre0 (Int.toNat v8) (by omega))) (ifb (f (s.getD (Int.toNat v8) default)) (fun h3=>fiI v8 (F107 s f) (finR (Qr hI0 (condT h2 (condT h3 rfl))) rfl)) (fun h3=>ai (iok (v8+1) (by omega)) (Udc Qf s f i0 m0 (v8+1) hl0 (Qe hI0 (condT h2 (condF h3 rfl))) (by refine ⟨?_,?_⟩ <;> omega))))))) (fun h2 _=>have hD0_4:Qqc s f=Lp.done v8:=Ql hI0 (condF h2 rfl); fiI (-1) (F107 s f) (finD hD0_4 rfl))) (i0.1-1) i0.2 (Uee s f i0 hi0))) (by kernel_rfl)
theorem as107 (s:List (List ByteArray)) (f:(List ByteArray)→Bool):F107 s f=(idxI f s):=by
 exact Wn f s (Bw s f) (fun i=>rfl)
theorem oa107 (s:List (List ByteArray)) (f:(List ByteArray)→Bool) (Qf:(List ByteArray)→Prop):(S107 (idxI f s) s f Qf).ok Tryz.prog 107 false:=by
 intro hp; have h:=ok107 s f Qf hp; rw [as107 s f] at h; exact h
theorem g107_0 (s:List (List ByteArray)) (f:(List ByteArray)→Bool):(idxI f s)<(s.length:Int):=by
 exact Bv f s
theorem g107_1 (s:List (List ByteArray)) (f:(List ByteArray)→Bool):-1≤(idxI f s):=by
 (show -1≤idxI f s; unfold idxI; cases first (fun k=>f (s.getD k default)) s.length <;> simp only [oix] <;> omega)
theorem kc107a (s:List (List ByteArray)) (f:(List ByteArray)→Bool) (Qf:(List ByteArray)→Prop) {K_:Prop} (p0_:∀ k:Nat,k<s.length→Qf (s.getD k default)) (k_:((idxI f s)<(s.length:Int))→(-1≤(idxI f s))→K_):(∀ k:Nat,k<s.length→Qf (s.getD k default))∧(Imp (.l 1 (eL 1 eStr) s) (.l 1 (eL 1 eStr) s))∧(Jw Qf f=Jw Qf f)∧K_:=⟨p0_,Imp.refl _,rfl,k_ (g107_0 s f) (g107_1 s f)⟩
abbrev kh107a (s:List (List ByteArray)) (f:(List ByteArray)→Bool) (Qf:(List ByteArray)→Prop):Hint false Tryz.prog:=.call 107 (S107 (idxI f s) s f Qf) (oa107 s f Qf) none
def F83 (s:List (List ByteArray)) (f:(List ByteArray)→Bool):Bool :=
 decide ((idxI f s)≥0)
def S83 (R:Bool) (s:List (List ByteArray)) (f:(List ByteArray)→Bool) (Qf:(List ByteArray)→Prop):Spec:=⟨[.r (.c (.l 1 (eL 1 eStr) s)),.fn (Jw Qf f)],.v (.bool R),(∀ k:Nat,k<s.length→Qf (s.getD k default))⟩
theorem ok83 (s:List (List ByteArray)) (f:(List ByteArray)→Bool) (Qf:(List ByteArray)→Prop):(S83 (F83 s f) s f Qf).ok Tryz.prog 83 false :=
 Qi mixed (fn:=Tryz.f83) (ct:=.seqk [(0,0)] .no (.seq (.reg [(2,kh107a s f Qf)]) .no)) Tryz.func83 (fun (hpre0:∀ k:Nat,k<s.length→Qf (s.getD k default))=>kn s fun _=>kc107a s f Qf (by assumption) (fun gv1 gv2=>fiB (decide ((idxI f s)≥0)) (F83 s f) rfl)) (by kernel_rfl)
theorem as83 (s:List (List ByteArray)) (f:(List ByteArray)→Bool):F83 s f=(s.any f):=by
 exact Pw f s
theorem oa83 (s:List (List ByteArray)) (f:(List ByteArray)→Bool) (Qf:(List ByteArray)→Prop):(S83 (s.any f) s f Qf).ok Tryz.prog 83 false:=by
 intro hp; have h:=ok83 s f Qf hp; rw [as83 s f] at h; exact h
def F67 (lines:List ByteArray):Bool :=
 (!((Qb lines (⟨#[117,115,101,114]⟩:ByteArray)).any (fun (x0:List ByteArray)=>F84 x0)))
def S67 (lines:List ByteArray):Spec:=⟨[.r (.c (.l 1 eStr lines))],.v (.bool (F67 lines)),F20 lines=0∧lines.length≤16∧(∀ k:Nat,(lines.getD k default).size≤1048576)⟩
theorem ok67 (lines:List ByteArray):(S67 lines).ok Tryz.prog 67 false :=
 Qi mixed (fn:=Tryz.f67) (ct:=.seqk [(0,0)] .no (.seq (.reg [(1,Vi lines (⟨#[117,115,101,114]⟩:ByteArray)),(2,.call 83 (S83 ((Qb lines (⟨#[117,115,101,114]⟩:ByteArray)).any (fun (x0:List ByteArray)=>F84 x0)) (Qb lines (⟨#[117,115,101,114]⟩:ByteArray)) (fun (x0:List ByteArray)=>F84 x0) (fun (x0:List ByteArray)=>Wf x0)) (oa83 (Qb lines (⟨#[117,115,101,114]⟩:ByteArray)) (fun (x0:List ByteArray)=>F84 x0) (fun (x0:List ByteArray)=>Wf x0)) (some ⟨true,84,Jw (fun (x0:List ByteArray)=>Wf x0) (fun (x0:List ByteArray)=>F84 x0),[],rfl,True,fun i=>Bl (ok84 i)⟩))]) .no)) Tryz.func67 (fun (hp:F20 lines=0∧lines.length≤16∧(∀ k:Nat,(lines.getD k default).size≤1048576))=>have hpre0:=hp.1; have hpre1:=hp.2.1; have hpre2:=hp.2.2; kn lines fun _=>Gq lines (⟨#[117,115,101,114]⟩:ByteArray) (by omega) (by assumption) (by omega) (fun gv1=>ai (by exact Ufd lines (by omega):∀ k:Nat,k<(Qb lines (⟨#[117,115,101,114]⟩:ByteArray)).length→(fun (x0:List ByteArray)=>Wf x0) ((Qb lines (⟨#[117,115,101,114]⟩:ByteArray)).getD k default)) (ai (Imp.refl (.l 1 (eL 1 eStr) (Qb lines (⟨#[117,115,101,114]⟩:ByteArray)))) (ai (Eq.refl (Jw (fun (x0:List ByteArray)=>Wf x0) (fun (x0:List ByteArray)=>F84 x0))) (ai trivial (fiB (!((Qb lines (⟨#[117,115,101,114]⟩:ByteArray)).any (fun (x0:List ByteArray)=>F84 x0))) (F67 lines) rfl)))))) (by kernel_rfl)
def Vr (lines:List ByteArray) (name:ByteArray):(Int×Int)→Lp (Int×Int) Int:=fun (n,v11) =>
 bif (decide (v11<((Qb lines (⟨#[114,117,108,101]⟩:ByteArray)).length:Int))) then (bif ((((Qb lines (⟨#[114,117,108,101]⟩:ByteArray)).getD (Int.toNat v11) default).getD (Int.toNat 1) default).toList==name.toList) then (.next ((n+1),(v11+1))) else (.next (n,(v11+1)))) else (.done (n,v11))
def F85 (lines:List ByteArray) (name:ByteArray):Int :=
 (runL (Vr lines name) ((Int.toNat (((Qb lines (⟨#[114,117,108,101]⟩:ByteArray)).length:Int)-0))+1) (0,0)).fin (fun r=>r) (fun (n,v11)=>n)
abbrev Rz (lines:List ByteArray):Nat×(Int×Int):=(((Int.toNat (((Qb lines (⟨#[114,117,108,101]⟩:ByteArray)).length:Int)-0))+1),(0,0))
abbrev Qjt (lines:List ByteArray) (m39:Nat) (n:Int) (v11:Int):Prop:=Int.toNat (((Qb lines (⟨#[114,117,108,101]⟩:ByteArray)).length:Int)-v11)<m39∧(0:Int)≤n∧(n:Int)≤v11∧(0:Int)≤n∧(0:Int)≤v11
abbrev Quz (lines:List ByteArray) (name:ByteArray):Lp (Int×Int) Int:=LpX (Vr lines name) (Rz lines)
abbrev Ri (lines:List ByteArray) (name:ByteArray) (i:Nat×(Int×Int)):Prop:=LpJ (Vr lines name) (Rz lines) i (Qjt lines i.1 i.2.1 i.2.2)
abbrev Ubp (lines:List ByteArray) (name:ByteArray) (i:Nat×(Int×Int)) (m39:Nat) (n:Int) (v11:Int):Prop:=LpH (Vr lines name) (Rz lines) i m39 (n,v11) (Qjt lines (m39+1) n v11)
abbrev Qxv (lines:List ByteArray) (name:ByteArray) (n:Int) (v11:Int) (n_:Int) (v11_:Int) (K39:Prop):Prop:=(Rf (.string name))∧((.int .i64 n:Value)=.int .i64 n_)∧(Rf (.int .i64 ((Qb lines (⟨#[114,117,108,101]⟩:ByteArray)).length:Int)))∧((.int .i64 v11:Value)=.int .i64 v11_)∧(Im (.l 1 (eL 1 eStr) (Qb lines (⟨#[114,117,108,101]⟩:ByteArray))))∧K39
theorem un85_0 (lines:List ByteArray) (name:ByteArray) (i:Nat×(Int×Int)) (h:Ri lines name i):Ubp lines name i (i.1-1) i.2.1 i.2.2:=⟨hd1 h.1 h.2.1,hd3 h.2.1,hd2 h.2.1,h.2.2⟩
theorem Uad (lines:List ByteArray) (name:ByteArray) (i:Nat×(Int×Int)) (m39:Nat) (n:Int) (v11:Int) (hl:m39<i.1) (e:runL (Vr lines name) m39 (n,v11)=Quz lines name) (h:Qjt lines m39 n v11):∃ j:Nat×(Int×Int),Qxv lines name n v11 j.2.1 j.2.2 (Ri lines name j∧j.1<i.1):=⟨(m39,(n,v11)),rfl,rfl,rfl,rfl,Imp.refl _,⟨e,h⟩,hl⟩
theorem en85_0 (lines:List ByteArray) (name:ByteArray) (h:(0:Int)≤0∧(0:Int)≤0∧(0:Int)≤0∧(0:Int)≤0):Qxv lines name 0 0 0 0 (Ri lines name (Rz lines)):=⟨rfl,rfl,rfl,rfl,Imp.refl _,rfl,Nat.lt_succ_self _,h⟩
def S85 (lines:List ByteArray) (name:ByteArray):Spec:=⟨[.r (.c (.l 1 eStr lines)),.r (.c (.v (.string name)))],.v (vI (F85 lines name)),F20 lines=0∧lines.length≤16∧(∀ k:Nat,(lines.getD k default).size≤1048576)⟩
theorem ok85 (lines:List ByteArray) (name:ByteArray):(S85 lines name).ok Tryz.prog 85 :=
 Qi mixed (fn:=Tryz.f85) (ct:=.seqk [(0,0)] .no (.seq .no (.seq (.seqk [(9,0)] (.reg [(1,kh35a lines (⟨#[114,117,108,101]⟩:ByteArray))]) (.blk (.loop (ι:=Nat×(Int×Int)) (fun i=>(fun (n:Int) (v11:Int)=>(⟨[(1,some (.v (.string name))),(5,some (.v (vI n))),(9,some (.h 0 0)),(10,some (.v (vI ((Qb lines (⟨#[114,117,108,101]⟩:ByteArray)).length:Int)))),(11,some (.v (vI v11)))],[(0,some (.own 0 (.l 1 (eL 1 eStr) (Qb lines (⟨#[114,117,108,101]⟩:ByteArray)))))],1⟩:St)) i.2.1 i.2.2) (Ri lines name) (fun i=>i.1) (Rz lines) (fun i=>(fun (n:Int) (v11:Int)=>(.seq .no (.seq (.cond .no .no) (.seq (.blk (.seq .no (.seq .no (.cond (.reg [(1,.bnd)]) .no)))) (.reg [(0,.bnd)]))))) i.2.1 i.2.2)))) (.seq .no .no)))) Tryz.func85 (fun (hp:F20 lines=0∧lines.length≤16∧(∀ k:Nat,(lines.getD k default).size≤1048576))=>have hpre0:=hp.1; have hpre1:=hp.2.1; have hpre2:=hp.2.2; kn lines fun _=>Gq lines (⟨#[114,117,108,101]⟩:ByteArray) (by omega) (by assumption) (by omega) (fun gv1=>kn (Qb lines (⟨#[114,117,108,101]⟩:ByteArray)) fun _=>ai (en85_0 lines name (by refine ⟨?_,?_,?_,?_⟩ <;> omega)) (fun (i0:Nat×(Int×Int)) (hi0:Ri lines name i0)=>(fun (m0:Nat) (n:Int) (v11:Int) (hh0:Ubp lines name i0 m0 n v11)=>have hI0:=hh0.1; have hl0:=hh0.2.1; have _:=hh0.2.2.1; have _:=hh0.2.2.2; ifd (v11<((Qb lines (⟨#[114,117,108,101]⟩:ByteArray)).length:Int)) (fun h3 _=>ai (by (omega):0≤v11∧v11<((Qb lines (⟨#[114,117,108,101]⟩:ByteArray)).length:Int)) (ai (by (have h9:=Qph lines (by omega) (Int.toNat v11) (by omega); unfold Ks at h9; omega):0≤(1:Int)∧(1:Int)<(((Qb lines (⟨#[114,117,108,101]⟩:ByteArray)).getD (Int.toNat v11) default).length:Int)) (ifb ((((Qb lines (⟨#[114,117,108,101]⟩:ByteArray)).getD (Int.toNat v11) default).getD (Int.toNat 1) default).toList==name.toList) (fun h4=>ai (iok (n+1) (by omega)) (ai (iok (v11+1) (by omega)) (Uad lines name i0 m0 (n+1) (v11+1) hl0 (Qe hI0 (condT h3 (condT h4 rfl))) (by refine ⟨?_,?_,?_,?_,?_⟩ <;> omega)))) (fun h4=>ai (iok (v11+1) (by omega)) (Uad lines name i0 m0 n (v11+1) hl0 (Qe hI0 (condT h3 (condF h4 rfl))) (by refine ⟨?_,?_,?_,?_,?_⟩ <;> omega)))))) (fun h3 _=>have hD0_5:Quz lines name=Lp.done (n,v11):=Ql hI0 (condF h3 rfl); fiI n (F85 lines name) (finD hD0_5 rfl))) (i0.1-1) i0.2.1 i0.2.2 (un85_0 lines name i0 hi0)))) (by kernel_rfl)
theorem kc85 (lines:List ByteArray) (name:ByteArray) {K_:Prop} (p0_:F20 lines=0) (p1_:lines.length≤16) (p2_:∀ k:Nat,(lines.getD k default).size≤1048576) (k_:K_):(F20 lines=0∧lines.length≤16∧(∀ k:Nat,(lines.getD k default).size≤1048576))∧(Imp (.l 1 eStr lines) (.l 1 eStr lines))∧(Imp (.v (.string name)) (.v (.string name)))∧K_:=⟨⟨p0_,p1_,p2_⟩,Imp.refl _,Imp.refl _,k_⟩
abbrev kh85 (lines:List ByteArray) (name:ByteArray):Hint true Tryz.prog:=.call 85 (S85 lines name) (ok85 lines name) none
def F86 (w1:List ByteArray) (p1:List ByteArray):Bool :=
 decide ((F85 p1 (w1.getD (Int.toNat 1) default))>12)
def S86 (w1:List ByteArray) (p1:List ByteArray):Spec:=⟨[.r (.c (.l 1 eStr w1)),.rp ([.l 1 eStr p1])],.v (.bool (F86 w1 p1)),Ks w1∧F20 p1=0∧p1.length≤16∧(∀ k:Nat,(p1.getD k default).size≤1048576)⟩
theorem ok86 (w1:List ByteArray) (p1:List ByteArray):(S86 w1 p1).ok Tryz.prog 86 :=
 Qi mixed (fn:=Tryz.f86) (ct:=.seqk [(0,0)] .no (.seq (.reg [(4,kh85 p1 (w1.getD (Int.toNat 1) default))]) .no)) Tryz.func86 (fun (hp:Ks w1∧F20 p1=0∧p1.length≤16∧(∀ k:Nat,(p1.getD k default).size≤1048576))=>have hpre0:=hp.1; have hpre1:=hp.2.1; have hpre2:=hp.2.2.1; have hpre3:=hp.2.2.2; kn w1 fun _=>ai (by (have h9:=hpre0; unfold Ks at h9; omega):0≤(1:Int)∧(1:Int)<(w1.length:Int)) (kc85 p1 (w1.getD (Int.toNat 1) default) (by omega) (by omega) (by assumption) (fiB (decide ((F85 p1 (w1.getD (Int.toNat 1) default))>12)) (F86 w1 p1) rfl))) (by kernel_rfl)
theorem kg85 {K_:Prop} (c_ b_:Bool) (lines:List ByteArray) (name:ByteArray) (p_:c_=b_→F20 lines=0∧lines.length≤16∧(∀ k:Nat,(lines.getD k default).size≤1048576)) (k_:K_):(c_=b_→F20 lines=0∧lines.length≤16∧(∀ k:Nat,(lines.getD k default).size≤1048576))∧(c_=b_→Imp (.l 1 eStr lines) (.l 1 eStr lines))∧(c_=b_→Imp (.v (.string name)) (.v (.string name)))∧K_:=⟨p_,fun _=>Imp.refl _,fun _=>Imp.refl _,k_⟩
abbrev kh85f (lines:List ByteArray) (name:ByteArray):Hint false Tryz.prog:=.call 85 (S85 lines name) ((ok85 lines name).to false) none
def Xv (lines:List ByteArray):Int→Lp Int Bool:=fun v8 =>
 bif (decide (v8<((Qb lines (⟨#[112,111,114,116]⟩:ByteArray)).length:Int))) then (bif (bif decide ((((Qb lines (⟨#[112,111,114,116]⟩:ByteArray)).getD (Int.toNat v8) default).length:Int)>4) then ((F85 lines (((Qb lines (⟨#[112,111,114,116]⟩:ByteArray)).getD (Int.toNat v8) default).getD (Int.toNat 4) default))==0) else false) then (.ret true) else (.next (v8+1))) else (.done v8)
def F68 (lines:List ByteArray):Bool :=
 (runL (Xv lines) ((Int.toNat (((Qb lines (⟨#[112,111,114,116]⟩:ByteArray)).length:Int)-0))+1) 0).fin (fun r=>r) (fun v8=>((Qb lines (⟨#[114,117,108,101]⟩:ByteArray)).any (fun (x0:List ByteArray)=>F86 x0 lines)))
abbrev Tv (lines:List ByteArray):Nat×Int:=(((Int.toNat (((Qb lines (⟨#[112,111,114,116]⟩:ByteArray)).length:Int)-0))+1),0)
abbrev Qmg (lines:List ByteArray) (m39:Nat) (v8:Int):Prop:=Int.toNat (((Qb lines (⟨#[112,111,114,116]⟩:ByteArray)).length:Int)-v8)<m39∧(0:Int)≤v8
abbrev Qtb (lines:List ByteArray):Lp Int Bool:=LpX (Xv lines) (Tv lines)
abbrev Qai (lines:List ByteArray) (i:Nat×Int):Prop:=LpJ (Xv lines) (Tv lines) i (Qmg lines i.1 i.2)
abbrev Qvq (lines:List ByteArray) (i:Nat×Int) (m39:Nat) (v8:Int):Prop:=LpH (Xv lines) (Tv lines) i m39 v8 (Qmg lines (m39+1) v8)
abbrev Qyt (lines:List ByteArray) (v8:Int) (v8_:Int) (K39:Prop):Prop:=(Rf (.int .i64 ((Qb lines (⟨#[112,111,114,116]⟩:ByteArray)).length:Int)))∧((.int .i64 v8:Value)=.int .i64 v8_)∧(Im (.l 1 eStr lines))∧(Im (.l 1 (eL 1 eStr) (Qb lines (⟨#[112,111,114,116]⟩:ByteArray))))∧K39
theorem un68_0 (lines:List ByteArray) (i:Nat×Int) (h:Qai lines i):Qvq lines i (i.1-1) i.2:=⟨hd1 h.1 h.2.1,hd3 h.2.1,hd2 h.2.1,h.2.2⟩
theorem bk68_0 (lines:List ByteArray) (i:Nat×Int) (m39:Nat) (v8:Int) (hl:m39<i.1) (e:runL (Xv lines) m39 v8=Qtb lines) (h:Qmg lines m39 v8):∃ j:Nat×Int,Qyt lines v8 j.2 (Qai lines j∧j.1<i.1):=⟨(m39,v8),rfl,rfl,Imp.refl _,Imp.refl _,⟨e,h⟩,hl⟩
theorem en68_0 (lines:List ByteArray) (h:(0:Int)≤0):Qyt lines 0 0 (Qai lines (Tv lines)):=⟨rfl,rfl,Imp.refl _,Imp.refl _,rfl,Nat.lt_succ_self _,h⟩
def S68 (lines:List ByteArray):Spec:=⟨[.r (.c (.l 1 eStr lines))],.v (.bool (F68 lines)),F20 lines=0∧lines.length≤16∧(∀ k:Nat,(lines.getD k default).size≤1048576)⟩
theorem ok68 (lines:List ByteArray):(S68 lines).ok Tryz.prog 68 false :=
 Qi mixed (fn:=Tryz.f68) (ct:=.seq .no (.seq (.seqk [(1,0),(6,0)] (.reg [(1,Vi lines (⟨#[112,111,114,116]⟩:ByteArray))]) (.blk (.loop (ι:=Nat×Int) (fun i=>(fun (v8:Int)=>(⟨[(1,some (.p 0 0)),(6,some (.h 2 0)),(7,some (.v (vI ((Qb lines (⟨#[112,111,114,116]⟩:ByteArray)).length:Int)))),(8,some (.v (vI v8)))],[(0,some (.box 22 [.h 1 0])),(1,some (.shr none (.l 1 eStr lines))),(2,some (.own 2 (.l 1 (eL 1 eStr) (Qb lines (⟨#[112,111,114,116]⟩:ByteArray)))))],3⟩:St)) i.2) (Qai lines) (fun i=>i.1) (Tv lines) (fun i=>(fun (v8:Int)=>(.seq .no (.seq (.cond .no .no) (.seq (.blk (.seq .no (.seq (.reg [(8,kh85f lines (((Qb lines (⟨#[112,111,114,116]⟩:ByteArray)).getD (Int.toNat v8) default).getD (Int.toNat 4) default))]) (.cond (.seq .no .no) .no)))) (.reg [(0,.bnd)]))))) i.2)))) (.seq (.reg [(1,Vi lines (⟨#[114,117,108,101]⟩:ByteArray)),(3,.call 83 (S83 ((Qb lines (⟨#[114,117,108,101]⟩:ByteArray)).any (fun (x0:List ByteArray)=>F86 x0 lines)) (Qb lines (⟨#[114,117,108,101]⟩:ByteArray)) (fun (x0:List ByteArray)=>F86 x0 lines) (fun (x0:List ByteArray)=>Ks x0∧F20 lines=0∧lines.length≤16∧(∀ k:Nat,(lines.getD k default).size≤1048576))) (oa83 (Qb lines (⟨#[114,117,108,101]⟩:ByteArray)) (fun (x0:List ByteArray)=>F86 x0 lines) (fun (x0:List ByteArray)=>Ks x0∧F20 lines=0∧lines.length≤16∧(∀ k:Nat,(lines.getD k default).size≤1048576))) (some ⟨true,86,Jw (fun (x0:List ByteArray)=>Ks x0∧F20 lines=0∧lines.length≤16∧(∀ k:Nat,(lines.getD k default).size≤1048576)) (fun (x0:List ByteArray)=>F86 x0 lines),[.rp ([.l 1 eStr lines])],rfl,True,fun i=>Bl (ok86 i lines)⟩))]) .no))) Tryz.func68 (fun (hp:F20 lines=0∧lines.length≤16∧(∀ k:Nat,(lines.getD k default).size≤1048576))=>have hpre0:=hp.1; have hpre1:=hp.2.1; have hpre2:=hp.2.2; Gq lines (⟨#[112,111,114,116]⟩:ByteArray) (by omega) (by assumption) (by omega) (fun gv1=>kn lines fun _=>kn (Qb lines (⟨#[112,111,114,116]⟩:ByteArray)) fun _=>ai (en68_0 lines (by omega)) (fun (i0:Nat×Int) (hi0:Qai lines i0)=>(fun (m0:Nat) (v8:Int) (hh0:Qvq lines i0 m0 v8)=>have hI0:=hh0.1; have hl0:=hh0.2.1; have _:=hh0.2.2.1; have _:=hh0.2.2.2; ifd (v8<((Qb lines (⟨#[112,111,114,116]⟩:ByteArray)).length:Int)) (fun h3 _=>ai (by omega:ib v8 (Qb lines (⟨#[112,111,114,116]⟩:ByteArray))) (ai (fun k4:(decide ((((Qb lines (⟨#[112,111,114,116]⟩:ByteArray)).getD (Int.toNat v8) default).length:Int)>4))=true=>have _:(((Qb lines (⟨#[112,111,114,116]⟩:ByteArray)).getD (Int.toNat v8) default).length:Int)>4:=of_decide_eq_true k4; (by omega:ib 4 ((Qb lines (⟨#[112,111,114,116]⟩:ByteArray)).getD (Int.toNat v8) default))) (kg85 (decide ((((Qb lines (⟨#[112,111,114,116]⟩:ByteArray)).getD (Int.toNat v8) default).length:Int)>4)) true lines (((Qb lines (⟨#[112,111,114,116]⟩:ByteArray)).getD (Int.toNat v8) default).getD (Int.toNat 4) default) (fun k5=>have _:(((Qb lines (⟨#[112,111,114,116]⟩:ByteArray)).getD (Int.toNat v8) default).length:Int)>4:=of_decide_eq_true k5; ⟨(by omega),(by omega),(by assumption)⟩) (ifb (bif decide ((((Qb lines (⟨#[112,111,114,116]⟩:ByteArray)).getD (Int.toNat v8) default).length:Int)>4) then ((F85 lines (((Qb lines (⟨#[112,111,114,116]⟩:ByteArray)).getD (Int.toNat v8) default).getD (Int.toNat 4) default))==0) else false) (fun h6=>have _:(((Qb lines (⟨#[112,111,114,116]⟩:ByteArray)).getD (Int.toNat v8) default).length:Int)>4:=of_decide_eq_true (Qk h6); have _:(F85 lines (((Qb lines (⟨#[112,111,114,116]⟩:ByteArray)).getD (Int.toNat v8) default).getD (Int.toNat 4) default))=0:=eq_of_beq (Qw h6); fiB true (F68 lines) (finR (Qr hI0 (condT h3 (condT h6 rfl))) rfl)) (fun h6=>ai (iok (v8+1) (by omega)) (bk68_0 lines i0 m0 (v8+1) hl0 (Qe hI0 (condT h3 (condF h6 rfl))) (by refine ⟨?_,?_⟩ <;> omega))))))) (fun h3 _=>have hD0_7:Qtb lines=Lp.done v8:=Ql hI0 (condF h3 rfl); Gq lines (⟨#[114,117,108,101]⟩:ByteArray) (by omega) (by assumption) (by omega) (fun gv8=>ai (by exact fun k hk=>⟨Qph lines (by omega) k hk,by omega,by omega,by assumption⟩:∀ k:Nat,k<(Qb lines (⟨#[114,117,108,101]⟩:ByteArray)).length→(fun (x0:List ByteArray)=>Ks x0∧F20 lines=0∧lines.length≤16∧(∀ k:Nat,(lines.getD k default).size≤1048576)) ((Qb lines (⟨#[114,117,108,101]⟩:ByteArray)).getD k default)) (ai (Imp.refl (.l 1 (eL 1 eStr) (Qb lines (⟨#[114,117,108,101]⟩:ByteArray)))) (ai (Eq.refl (Jw (fun (x0:List ByteArray)=>Ks x0∧F20 lines=0∧lines.length≤16∧(∀ k:Nat,(lines.getD k default).size≤1048576)) (fun (x0:List ByteArray)=>F86 x0 lines))) (ai trivial (ai (Imps.refl [.l 1 eStr lines]) (fiB ((Qb lines (⟨#[114,117,108,101]⟩:ByteArray)).any (fun (x0:List ByteArray)=>F86 x0 lines)) (F68 lines) (finD hD0_7 rfl))))))))) (i0.1-1) i0.2 (un68_0 lines i0 hi0)))) (by kernel_rfl)
structure l52Cut where
 w:List ByteArray
 deriving DecidableEq,Inhabited
def Qj (x:l52Cut):List Dat:=[.l 1 eStr x.w]
def Xt (lines:List ByteArray):(List l52Cut×Int)→Lp (List l52Cut×Int) (List l52Cut):=fun (out,i40) =>
 bif (decide (i40<(lines.length:Int))) then (.next ((out++[(⟨(F40 (lines.getD (Int.toNat i40) default)).1⟩:l52Cut)]),(i40+1))) else (.done (out,i40))
def F21 (lines:List ByteArray):List l52Cut :=
 (runL (Xt lines) ((Int.toNat ((lines.length:Int)-0))+1) (([]:List l52Cut),0)).fin (fun r=>r) (fun (out,i40)=>out)
abbrev Qcd (lines:List ByteArray):Nat×(List l52Cut×Int):=(((Int.toNat ((lines.length:Int)-0))+1),(([]:List l52Cut),0))
abbrev Qmu (lines:List ByteArray) (m39:Nat) (out:List l52Cut) (i40:Int):Prop:=Int.toNat ((lines.length:Int)-i40)<m39∧(out.length:Int)≤i40∧(0:Int)≤i40
abbrev Qug (lines:List ByteArray):Lp (List l52Cut×Int) (List l52Cut):=LpX (Xt lines) (Qcd lines)
abbrev Rl (lines:List ByteArray) (i:Nat×(List l52Cut×Int)):Prop:=LpJ (Xt lines) (Qcd lines) i (Qmu lines i.1 i.2.1 i.2.2)
abbrev Qzk (lines:List ByteArray) (i:Nat×(List l52Cut×Int)) (m39:Nat) (out:List l52Cut) (i40:Int):Prop:=LpH (Xt lines) (Qcd lines) i m39 (out,i40) (Qmu lines (m39+1) out i40)
abbrev Uaw (lines:List ByteArray) (out:List l52Cut) (i40:Int) (out_:List l52Cut) (i40_:Int) (K39:Prop):Prop:=((.int .i64 i40:Value)=.int .i64 i40_)∧(Im (.l 1 eStr lines))∧(Imp (.l 1 Qj out) (.l 1 Qj out_))∧K39
theorem un21_0 (lines:List ByteArray) (i:Nat×(List l52Cut×Int)) (h:Rl lines i):Qzk lines i (i.1-1) i.2.1 i.2.2:=⟨hd1 h.1 h.2.1,hd3 h.2.1,hd2 h.2.1,h.2.2⟩
theorem bk21_0 (lines:List ByteArray) (i:Nat×(List l52Cut×Int)) (m39:Nat) (out:List l52Cut) (i40:Int) (hl:m39<i.1) (e:runL (Xt lines) m39 (out,i40)=Qug lines) (h:Qmu lines m39 out i40):∃ j:Nat×(List l52Cut×Int),Uaw lines out i40 j.2.1 j.2.2 (Rl lines j∧j.1<i.1):=⟨(m39,(out,i40)),rfl,Imp.refl _,Imp.refl _,⟨e,h⟩,hl⟩
theorem en21_0 (lines:List ByteArray) (h:(([]:List l52Cut).length:Int)≤0∧(0:Int)≤0):Uaw lines ([]:List l52Cut) 0 ([]:List l52Cut) 0 (Rl lines (Qcd lines)):=⟨rfl,Imp.refl _,Imp.refl _,rfl,Nat.lt_succ_self _,h⟩
theorem fi21 (lines:List ByteArray) (r:List l52Cut) (hF:r=(F21 lines)):(Imp (.l 1 Qj r) (.l 1 Qj (F21 lines)))∧True:=by cases hF; exact ⟨Imp.refl _,trivial⟩
def S21 (R:List l52Cut) (lines:List ByteArray):Spec:=⟨[.r (.c (.l 1 eStr lines))],.ow (.l 1 Qj R),lines.length≤16∧(∀ k:Nat,(lines.getD k default).size≤1048576)⟩
theorem ok21 (lines:List ByteArray):(S21 (F21 lines) lines).ok Tryz.prog 21 :=
 Qi mixed (fn:=Tryz.f21) (ct:=.seqk [(0,0)] .no (.seq (.reg [(0,.dat (.l 1 Qj ([]:List l52Cut)))]) (.seq (.seqk [(0,0),(3,0)] .no (.blk (.loop (ι:=Nat×(List l52Cut×Int)) (fun i=>(fun (out:List l52Cut) (i40:Int)=>(⟨[(0,some (.h 0 0)),(3,some (.h 1 0)),(4,some (.v (vI i40)))],[(0,some (.shr none (.l 1 eStr lines))),(1,some (.own 1 (.l 1 Qj out)))],2⟩:St)) i.2.1 i.2.2) (Rl lines) (fun i=>i.1) (Qcd lines) (fun i=>(fun (out:List l52Cut) (i40:Int)=>(.seq (.seq .no (.cond .no .no)) (.seq (.blk (.seq (.reg [(4,kh40 (lines.getD (Int.toNat i40) default))]) (.reg [(4,.dat (.l 1 Qj (out++[(⟨(F40 (lines.getD (Int.toNat i40) default)).1⟩:l52Cut)])))]))) (.reg [(1,.bnd)])))) i.2.1 i.2.2)))) (.seq .no .no)))) Tryz.func21 (fun (hp:lines.length≤16∧(∀ k:Nat,(lines.getD k default).size≤1048576))=>have hpre0:=hp.1; have hpre1:=hp.2; kn lines fun _=>ai (bokr 1 Qj ([]:List l52Cut) fun _=>rfl) (kn lines fun _=>kn ([]:List l52Cut) fun _=>ai (en21_0 lines (by refine ⟨?_,?_⟩ <;> (simp only [lens,ib] at*<;> omega))) (fun (i0:Nat×(List l52Cut×Int)) (hi0:Rl lines i0)=>(fun (m0:Nat) (out:List l52Cut) (i40:Int) (hh0:Qzk lines i0 m0 out i40)=>have hI0:=hh0.1; have hl0:=hh0.2.1; have _:=hh0.2.2.1; have _:=hh0.2.2.2; ifd (i40<(lines.length:Int)) (fun h2 _=>ai (by omega:ib i40 lines) (kc40 (lines.getD (Int.toNat i40) default) (by exact hpre1 _) (fun gv3 gv4=>ai (appr 1 Qj out [(⟨(F40 (lines.getD (Int.toNat i40) default)).1⟩:l52Cut)] fun _=>rfl) (ai (by (try simp only [lens]); omega:(out++[(⟨(F40 (lines.getD (Int.toNat i40) default)).1⟩:l52Cut)]).length*24≤140737488355328) (ai (iok (i40+1) (by omega)) (bk21_0 lines i0 m0 (out++[(⟨(F40 (lines.getD (Int.toNat i40) default)).1⟩:l52Cut)]) (i40+1) hl0 (Qe hI0 (condT h2 rfl)) (by refine ⟨?_,?_,?_⟩ <;> (simp only [lens,ib] at*<;> omega)))))))) (fun h2 _=>have hD0_5:Qug lines=Lp.done (out,i40):=Ql hI0 (condF h2 rfl); fi21 lines out (finD hD0_5 rfl))) (i0.1-1) i0.2.1 i0.2.2 (un21_0 lines i0 hi0)))) (by kernel_rfl)
def F29 (c:l52Cut) (k:Int):ByteArray :=
 bif (decide (k<(c.w.length:Int))) then (c.w.getD (Int.toNat k) default) else (⟨#[]⟩:ByteArray)
def S29 (c:l52Cut) (k:Int):Spec:=⟨[.r (.g (Qj c)),.r (.c (.v (vI k)))],.v (.string (F29 c k)),0≤k⟩
theorem ok29 (c:l52Cut) (k:Int):(S29 c k).ok Tryz.prog 29 :=
 Qi mixed (fn:=Tryz.f29) (ct:=.seq .no (.seq (.seq .no (.cond (.seq .no .no) .no)) (.seq .no .no))) Tryz.func29 (fun (hpre0:0≤k)=>ifd (k<(c.w.length:Int)) (fun h1 _=>ai (by omega:ib k c.w) (fiS (c.w.getD (Int.toNat k) default) (F29 c k) (condT h1 rfl))) (fun h1 _=>fiS w13_ (F29 c k) (condF h1 rfl))) (by kernel_rfl)
theorem Zc (s:ByteArray):0≤(F36 s).1.Len∧(F36 s).1.Len≤16∧0≤(F36 s).1.Addr∧(F36 s).1.Addr≤65535:=by
 rw [Vf]
 cases h:pfxL s.data.toList with
 | none=>exact ⟨by decide,by decide,by decide,by decide⟩
 | some p =>
  obtain ⟨a,n⟩:=p
  have:=Qgr h
  show 0≤n∧n≤16∧0≤a∧a≤65535
  omega
def Qo (lines:List ByteArray):List Qa:=(Qb lines (⟨#[112,111,114,116]⟩:ByteArray)).map fun w=>(F36 (w.getD 2 default)).1
theorem as87 (lines:List ByteArray):F87 lines=(Qo lines):=by
 unfold F87
 have:=Uz (Qb lines (⟨#[112,111,114,116]⟩:ByteArray)) (fun (s:List Qa) w=>s++[(F36 (w.getD 2 default)).1]) (fun s i=>(s,i)) (Xs lines) (fun i s hi=>by
  simp only [Xs,ltD hi,cond_true,nn]; rfl) (fun s=>by simp only [Xs,geD,cond_false]) (fun r=>r) (fun (out,v12)=>out) []
 refine this.trans ?_
 rw [Zg,List.nil_append]; rfl
theorem Qhc (lines:List ByteArray):∀ p∈Qo lines,0≤p.Len∧p.Len≤16∧0≤p.Addr∧p.Addr≤65535:=fun p hp=>by
 obtain ⟨w,_,rfl⟩:=List.mem_map.1 hp
 exact Zc _
theorem Mo (lines:List ByteArray):∀ k:Nat,0≤((Qo lines).getD k default).Len∧((Qo lines).getD k default).Len≤16:=fun k=>by
 by_cases hk:k<(Qo lines).length
 ·have:=Qhc lines _ (Zl _ hk); omega
 ·rw [Zs _ (by omega)]; exact ⟨by decide,by decide⟩
theorem Ei (lines:List ByteArray) (n k:Nat):0≤(((Qo lines).take n).getD k default).Len∧(((Qo lines).take n).getD k default).Len≤16:=by
 by_cases hk:k<((Qo lines).take n).length
 ·have:=Qhc lines _ (List.mem_of_mem_take (Zl _ hk)); omega
 ·rw [Zs _ (by omega)]; exact ⟨by decide,by decide⟩
theorem Qxr:∀ k:Nat,(([]:List ByteArray).getD k default).size≤1048576:=fun k=>Nat.zero_le _
theorem Qnm {a:List ByteArray} {x:ByteArray} (h:∀ k:Nat,(a.getD k default).size≤1048576) (hx:x.size≤1048576):∀ k:Nat,((a++[x]).getD k default).size≤1048576:=fun k=>by
 rw [List.getD_eq_getElem?_getD,List.getElem?_append]
 split
 ·rw [← List.getD_eq_getElem?_getD]; exact h k
 ·cases hk:k-a.length with
  | zero=>exact hx
  | succ j=>exact Nat.zero_le _
theorem Ey (lines:List ByteArray) (h:F20 lines=0) (n k:Nat) (hk:k<((Qb lines (⟨#[100,111,111,114]⟩:ByteArray)).take n).length):Kr (((Qb lines (⟨#[100,111,111,114]⟩:ByteArray)).take n).getD k default):=by
 rw [List.length_take] at hk
 have:=Gn lines h k (by omega)
 rw [List.getD_eq_getElem?_getD,List.getElem?_take,if_pos (by omega),← List.getD_eq_getElem?_getD]
 exact this
theorem as21 (lines:List ByteArray):F21 lines=(lines.map (fun l=>(⟨(F40 l).1⟩:l52Cut))):=by
 unfold F21
 have:=Uz lines (fun (s:List l52Cut) l=>s++[(⟨(F40 l).1⟩:l52Cut)]) (fun s i=>(s,i)) (Xt lines) (fun i s hi=>by
  simp only [Xt,ltD hi,cond_true,nn]; rfl) (fun s=>by simp only [Xt,geD,cond_false]) (fun r=>r) (fun (out,i40)=>out) []
 refine this.trans ?_
 rw [Zg,List.nil_append]
theorem Na {c:l52Cut} (h:∀ j:Nat,(c.w.getD j default).size≤1048576) (k:Int):(F29 c k).size≤1048576:=by
 unfold F29
 cases decide (k<(c.w.length:Int)) with
 | true=>exact h _
 | false=>exact Nat.zero_le _
theorem Wc (all:List l52Cut) (h:∀ k j:Nat,((all.getD k default).w.getD j default).size≤1048576) (i:Nat) (k:Int):(F29 (all.getD i default) k).size≤1048576:=Na (h i) k
end Go.Proofs.YtbaholefcgacpaeGreatDoor
