/- A part of the proof of FnExactTernPeers. Texts put together: VFF, PFF, PCL0, VCL, PCL, PK0, VK, PK1, VK2, PK2, PLP, VN0, PN0, VN, PN1N, PCK0, VCKA, PCKB. -/
import Derived.Test.YtahakkfbpnpimabGreatDoorRows
import Derived.Test.YtahakkfbpnpimabGreatDoorZC49C
namespace Go.Proofs.YtahakkfbpnpimabGreatDoor
open Go.RowKit
set_option maxRecDepth 100000
set_option linter.unusedVariables false
set_option linter.unusedSimpArgs false
theorem kc17 (word:ByteArray) {K_:Prop} (p0_:word.size≤1048576) (k_:K_):(word.size≤1048576)∧(Imp (.v (.string word)) (.v (.string word)))∧K_:=⟨p0_,Imp.refl _,k_⟩
abbrev kh17 (word:ByteArray):Hint false Tryz.prog:=.call 17 (S17 word) (ok17 word) none
def F171 (word:ByteArray) (p1:Int) (p2:Int):Bool :=
 (decide (p1≤(F17 word)∧(F17 word)≤p2))
def S171 (word:ByteArray) (p1:Int) (p2:Int):Spec:=⟨[.r (.c (.v (.string word))),.rp ([.v (vI p1)]),.rp ([.v (vI p2)])],.v (.bool (F171 word p1 p2)),word.size≤1048576⟩
theorem ok171 (word:ByteArray) (p1:Int) (p2:Int):(S171 word p1 p2).ok Tryz.prog 171 false :=
 Qn mixed (fn:=Tryz.f171) (ct:=.seq .no (.seq (.reg [(1,kh17 word),(4,Qav (F17 word) p1 p2)]) .no)) Tryz.func171 (fun (hpre0:word.size≤1048576)=>kc17 word (by omega) (Qjv (F17 word) p1 p2 (fiB (decide (p1≤(F17 word)∧(F17 word)≤p2)) (F171 word p1 p2) rfl))) (by kernel_rfl)
def F158 (low:Int) (high:Int):Unit :=
 ()
def S158 (low:Int) (high:Int):Spec:=⟨[.r (.c (.v (vI low))),.r (.c (.v (vI high)))],.cl 171 [.pt 3 [.v (vI low)],.pt 3 [.v (vI high)]],True⟩
theorem ok158 (low:Int) (high:Int):(S158 low high).ok Tryz.prog 158 :=
 Qn mixed (fn:=Tryz.f158) (ct:=.seq .no (.seq .no .no)) Tryz.func158 (fun (_:True)=>(fun hF:(():Unit)=(F158 low high)=>ai (Imps.refl [.v (vI low)]) (ai (Imps.refl [.v (vI high)]) trivial)) rfl) (by kernel_rfl)
def F173 (word:ByteArray) (p1:List ByteArray):Bool :=
 (F174 p1 word)
def S173 (word:ByteArray) (p1:List ByteArray):Spec:=⟨[.r (.c (.v (.string word))),.rp ([.l 1 eStr p1])],.v (.bool (F173 word p1)),word.size≤1048576⟩
theorem ok173 (word:ByteArray) (p1:List ByteArray):(S173 word p1).ok Tryz.prog 173 :=
 Qn mixed (fn:=Tryz.f173) (ct:=.seq .no (.seq (.reg [(2,kh174 p1 word)]) .no)) Tryz.func173 (fun (hpre0:word.size≤1048576)=>kc174 p1 word (fiB (F174 p1 word) (F173 word p1) rfl)) (by kernel_rfl)
def F162 (words:List ByteArray):Unit :=
 ()
def S162 (words:List ByteArray):Spec:=⟨[.ow (.l 1 eStr words) none],.cl 173 [.pt 22 [.l 1 eStr words]],True⟩
theorem ok162 (words:List ByteArray):(S162 words).ok Tryz.prog 162 :=
 Qn mixed (fn:=Tryz.f162) (ct:=.seq .no (.seq .no .no)) Tryz.func162 (fun (_:True)=>(fun hF:(():Unit)=(F162 words)=>ai (Imps.refl [.l 1 eStr words]) trivial) rfl) (by kernel_rfl)
structure Qq where
 word:ByteArray
 key:Int
 checks:SV
 deriving Inhabited
def Uc (x:Qq):List Dat:=[.v (.string x.word),.v (vI x.key),.v (sv x.checks)]
def F165 (f:Qq) (p1:ByteArray):Bool :=
 (!(f.word.toList==p1.toList))
def S165 (f:Qq) (p1:ByteArray):Spec:=⟨[.r (.g (Uc f)),.rp ([.v (.string p1)])],.v (.bool (F165 f p1)),True⟩
theorem ok165 (f:Qq) (p1:ByteArray):(S165 f p1).ok Tryz.prog 165 :=
 Qn mixed (fn:=Tryz.f165) (ct:=.seq .no (.seq .no .no)) Tryz.func165 (fun (_:True)=>(fun hF:((!(f.word.toList==p1.toList)):Bool)=(F165 f p1)=>ai (congrArg (fun r:Bool=>(.bool r:Value)) hF) trivial) rfl) (by kernel_rfl)
def Yn (Q:Qq→Prop) (p:Qq→Bool):Uu:=⟨Qq,fun i=>[.g (pxH (Uc i) (Q i))],fun i=>.bool (p i)⟩
def Yx (s:List Qq) (f:Qq→Bool):Int→Lp Int Int:=fun v8 =>
 bif (decide (v8<(s.length:Int))) then (bif (f (s.getD v8.toNat default)) then (.ret v8) else (.next (v8+1))) else (.done v8)
def F175 (s:List Qq) (f:Qq→Bool):Int :=
 (runL (Yx s f) (((s.length:Int)-0).toNat+1) 0).fin (fun r=>r) (fun v8=>(-1))
def S175 (R:Int) (s:List Qq) (f:Qq→Bool) (Qf:Qq→Prop):Spec:=⟨[.r (.c (.l 3 Uc s)),.fn (Yn Qf f)],.v (vI R),(∀ k:Nat,k<s.length→Qf (s.getD k default))⟩
theorem ok175 (s:List Qq) (f:Qq→Bool) (Qf:Qq→Prop):(S175 (F175 s f) s f Qf).ok Tryz.prog 175 false :=
 Qn mixed (fn:=Tryz.f175) (ct:=.seqk [(0,0)] .no (.seq (.seqk [(0,0)] .no (.blk (.loop (ι:=Nat×Int) (fun i=>(fun (v8:Int)=>(⟨[(0,some (.h 0 0)),(1,some (.h 1 0)),(7,some (.v (vI (s.length:Int)))),(8,some (.v (vI v8)))],[(0,some (.shr none (.l 3 Uc s))),(1,some (.fn (Yn Qf f)))],2⟩:St)) i.2) (fun i=>runL (Yx s f) i.1 i.2=(runL (Yx s f) (((s.length:Int)-0).toNat+1) 0)∧(fun (v8:Int)=>(Int.toNat ((s.length:Int)-v8)<i.1∧(0:Int)≤v8)) i.2) (fun i=>i.1) ((((s.length:Int)-0).toNat+1),0) (fun i=>(fun (v8:Int)=>(.seq .no (.seq (.cond .no .no) (.seq (.blk (.seq .no (.seq (.reg [(5,.fnv (Yn Qf f) (s.getD v8.toNat default))]) (.cond (.seq .no .no) .no)))) (.reg [(0,.bnd)]))))) i.2)))) (.seq .no .no))) Tryz.func175 (fun (hpre0:∀ k:Nat,k<s.length→Qf (s.getD k default))=>kn s fun _=>kn s fun _=>ai (ai rfl (ai rfl (ai ir (ai rfl (ai (rfl:runL (Yx s f) (((s.length:Int)-0).toNat+1) 0=(runL (Yx s f) (((s.length:Int)-0).toNat+1) 0)) (ai (Nat.lt_succ_self _:Int.toNat ((s.length:Int)-0)<(((s.length:Int)-0).toNat+1)) (by omega:(0:Int)≤0)))))):((.int .i64 (s.length:Int):Value)=.int .i64 (s.length:Int))∧((.int .i64 0:Value)=.int .i64 0)∧(Imp (.l 3 Uc s) (.l 3 Uc s))∧(Yn Qf f=Yn Qf f)∧(runL (Yx s f) (((s.length:Int)-0).toNat+1) 0=(runL (Yx s f) (((s.length:Int)-0).toNat+1) 0)∧Int.toNat ((s.length:Int)-0)<(((s.length:Int)-0).toNat+1)∧(0:Int)≤0)) (fun (i0:Nat×Int) (hi0:runL (Yx s f) i0.1 i0.2=(runL (Yx s f) (((s.length:Int)-0).toNat+1) 0)∧(fun (v8:Int)=>(Int.toNat ((s.length:Int)-v8)<i0.1∧(0:Int)≤v8)) i0.2)=>(fun (m0:Nat) (v8:Int) (hI0:runL (Yx s f) (m0+1) v8=(runL (Yx s f) (((s.length:Int)-0).toNat+1) 0)) (_:Int.toNat ((s.length:Int)-v8)<m0+1) (hl0:m0<i0.1) (_:(0:Int)≤v8)=>ifd (v8<(s.length:Int)) (fun h2 _=>ai (by omega:ib v8 s) (ai (Eq.refl (Yn Qf f)) (ai (Imps.pxH (ds:=Uc (s.getD v8.toNat default)) (hpre0 v8.toNat (by omega))) (ifb (f (s.getD v8.toNat default)) (fun h3=>(fun hF:(v8:Int)=(F175 s f)=>ai (congrArg (fun r:Int=>(.int .i64 r:Value)) hF) trivial) (finR (Qr hI0 (condT h2 (condT h3 rfl))) rfl)) (fun h3=>ai (iok (v8+1) (by omega)) (Exists.intro (p:=fun j:Nat×Int=>(fun (v8_:Int)=>(((.int .i64 (s.length:Int):Value)=.int .i64 (s.length:Int))∧((.int .i64 (v8+1):Value)=.int .i64 v8_)∧(Imp (.l 3 Uc s) (.l 3 Uc s))∧(Yn Qf f=Yn Qf f)∧((runL (Yx s f) j.1 j.2=(runL (Yx s f) (((s.length:Int)-0).toNat+1) 0)∧Int.toNat ((s.length:Int)-v8_)<j.1∧(0:Int)≤v8_)∧j.1<i0.1))) j.2) (m0,(v8+1)) (ai rfl (ai rfl (ai ir (ai rfl (ai (ai (Qe hI0 (condT h2 (condF h3 rfl))) (ai (by omega:Int.toNat ((s.length:Int)-(v8+1))<m0) (by omega:(0:Int)≤(v8+1)))) hl0))))))))))) (fun h2 _=>(fun hD0_4:(runL (Yx s f) (((s.length:Int)-0).toNat+1) 0)=Lp.done v8=>(fun hF:((-1):Int)=(F175 s f)=>ai (congrArg (fun r:Int=>(.int .i64 r:Value)) hF) trivial) (finD hD0_4 rfl)) (Qk hI0 (condF h2 rfl)))) (i0.1-1) i0.2 (hd1 hi0.1 hi0.2.1) (hd2 hi0.2.1) (hd3 hi0.2.1) hi0.2.2)) (by kernel_rfl)
theorem as175 (s:List Qq) (f:Qq→Bool):F175 s f=(idxI f s):=by
 exact Vo f s (Yx s f) (fun i=>rfl)
theorem oa175 (s:List Qq) (f:Qq→Bool) (Qf:Qq→Prop):(S175 (idxI f s) s f Qf).ok Tryz.prog 175 false:=by
 intro hp; have h:=ok175 s f Qf hp; rw [as175 s f] at h; exact h
theorem g175_0 (s:List Qq) (f:Qq→Bool):(idxI f s)<(s.length:Int):=by
 exact Mp f s
theorem g175_1 (s:List Qq) (f:Qq→Bool):-1≤(idxI f s):=by
 (show -1≤idxI f s; unfold idxI; cases first (fun k=>f (s.getD k default)) s.length <;> simp only [oix] <;> omega)
def Ym (s:List Qq) (del:Qq→Bool):(Int×Int×List Qq)→Lp (Int×Int×List Qq) (List Qq):=fun (i41,j1,xs) =>
 bif (decide (j1<(xs.length:Int))) then (bif (!(del (xs.getD j1.toNat default))) then (.next ((i41+1),(j1+1),(xs.set (i41).toNat (xs.getD j1.toNat default)))) else (.next (i41,(j1+1),xs))) else (.done (i41,j1,xs))
def Mx (s:List Qq) (del:Qq→Bool):Lp (List Qq×Int) (List Qq) :=
 (runL (Ym s del) (((s.length:Int)-((idxI del s)+1)).toNat+1) ((idxI del s),((idxI del s)+1),s)).fin Lp.ret (fun (i41,j1,xs)=>.done (xs,i41))
def F164 (s:List Qq) (del:Qq→Bool):List Qq :=
 bif ((idxI del s)==(-1)) then s else ((Mx s del).fin (fun r=>r) (fun (s1,i40)=>((s1.take i40.toNat++List.replicate (s1.drop i40.toNat).length ((⟨(⟨#[]⟩:ByteArray),0,(⟨none,0,0⟩:SV)⟩:Qq):Qq)++s1.drop (i40.toNat+(s1.drop i40.toNat).length)).take i40.toNat)))
def S164 (R:List Qq) (s:List Qq) (del:Qq→Bool) (Qdel:Qq→Prop):Spec:=⟨[.ow (.l 3 Uc s) none,.fn (Yn Qdel del)],.ow (.l 3 Uc R),s.length≤1000000000∧(∀ k:Nat,k<s.length→Qdel (s.getD k default))⟩
abbrev Xd (xs:List Qq) (i41:Int) (j1:Int):=(xs.set (i41).toNat (xs.getD j1.toNat default))
theorem ok164 (s:List Qq) (del:Qq→Bool) (Qdel:Qq→Prop):(S164 (F164 s del) s del Qdel).ok Tryz.prog 164 false :=
 Qn mixed (fn:=Tryz.f164) (ct:=.seqk [(0,0)] .no (.seq (.reg [(2,.call 175 (S175 (idxI del s) s del Qdel) (oa175 s del Qdel) none)]) (.seq (.seq .no (.cond (.seq .no .no) .no)) (.cut (ι:=List Qq×Int) (fun j=>(fun (s1:List Qq) (i40:Int)=>(⟨[(0,some (.h 0 0)),(5,some (.v (vI i40)))],[(0,some (.own 0 (.l 3 Uc s1)))],1⟩:St)) j.1 j.2) (fun j=>(fun (s1:List Qq) (i40:Int)=>((Mx s del)=Lp.done j∧(0≤i40∧i40≤(s1.length:Int)))) j.1 j.2) (.seqk [(0,0)] (.reg [(1,.bnd)]) (.blk (.loop (ι:=Nat×(Int×Int×List Qq)) (fun i=>(fun (i41:Int) (j1:Int) (xs:List Qq)=>(⟨[(0,some (.h 0 0)),(1,some (.h 1 0)),(5,some (.v (vI i41))),(6,some (.v (vI j1)))],[(0,some (.own 0 (.l 3 Uc xs))),(1,some (.fn (Yn Qdel del)))],2⟩:St)) i.2.1 i.2.2.1 i.2.2.2) (fun i=>runL (Ym s del) i.1 i.2=(runL (Ym s del) (((s.length:Int)-((idxI del s)+1)).toNat+1) ((idxI del s),((idxI del s)+1),s))∧(fun (i41:Int) (j1:Int) (xs:List Qq)=>(Int.toNat ((xs.length:Int)-j1)<i.1∧(0≤i41∧i41<j1)∧j1≤(xs.length:Int)∧xs.length≤1000000000∧(∀ k:Nat,j1≤(k:Int)→k<xs.length→Qdel (xs.getD k default))∧xs.length=s.length)) i.2.1 i.2.2.1 i.2.2.2) (fun i=>i.1) ((((s.length:Int)-((idxI del s)+1)).toNat+1),((idxI del s),((idxI del s)+1),s)) (fun i=>(fun (i41:Int) (j1:Int) (xs:List Qq)=>(.seq (.seq .no (.cond .no .no)) (.seq (.blk (.seq .no (.seq (.reg [(2,.fnv (Yn Qdel del) (xs.getD j1.toNat default))]) (.cond (.seq (.reg [(4,.dat (.l 3 Uc (Xd xs i41 j1)))]) (.reg [(1,.bnd)])) .no)))) (.reg [(1,.bnd)])))) i.2.1 i.2.2.1 i.2.2.2)))) (fun j=>(fun (s1:List Qq) (i40:Int)=>(.seq (.reg [(2,.part),(3,.dat (.l 3 Uc (s1.take i40.toNat++List.replicate (s1.drop i40.toNat).length ((⟨w13_,0,(⟨none,0,0⟩:SV)⟩:Qq):Qq)++s1.drop (i40.toNat+(s1.drop i40.toNat).length))))]) (.seq (.reg [(2,.own)]) .no))) j.1 j.2))))) Tryz.func164 (fun (hp:s.length≤1000000000∧(∀ k:Nat,k<s.length→Qdel (s.getD k default)))=>have hpre0:=hp.1; have hpre1:=hp.2; kn s fun _=>ai (by assumption:∀ k:Nat,k<s.length→Qdel (s.getD k default)) (ai (Imp.refl (.l 3 Uc s)) (ai (Eq.refl (Yn Qdel del)) (have gv1:(idxI del s)<(s.length:Int):=g175_0 s del; have gv2:-1≤(idxI del s):=g175_1 s del; ife (idxI del s) (-1) (fun h3 _=>(fun hF:(s:List Qq)=(F164 s del)=>ai (Imp.of_eq (congrArg (fun r:List Qq=>Dat.l 3 Uc r) hF)) trivial) (condT h3 rfl)) (fun h3 _=>ai (ai (iok ((idxI del s)+1) (by omega)) (kn s fun _=>ai (ai rfl (ai rfl (ai ir (ai rfl (ai (rfl:runL (Ym s del) (((s.length:Int)-((idxI del s)+1)).toNat+1) ((idxI del s),((idxI del s)+1),s)=(runL (Ym s del) (((s.length:Int)-((idxI del s)+1)).toNat+1) ((idxI del s),((idxI del s)+1),s))) (ai (Nat.lt_succ_self _:Int.toNat ((s.length:Int)-((idxI del s)+1))<(((s.length:Int)-((idxI del s)+1)).toNat+1)) (ai (by omega:0≤(idxI del s)∧(idxI del s)<((idxI del s)+1)) (ai (by omega:((idxI del s)+1)≤(s.length:Int)) (ai (by omega:s.length≤1000000000) (ai (by (intro k hk hk2; exact (by assumption:∀ k:Nat,k<s.length→Qdel (s.getD k default)) k hk2):∀ k:Nat,((idxI del s)+1)≤(k:Int)→k<s.length→Qdel (s.getD k default)) (by omega:s.length=s.length)))))))))):((.int .i64 (idxI del s):Value)=.int .i64 (idxI del s))∧((.int .i64 ((idxI del s)+1):Value)=.int .i64 ((idxI del s)+1))∧(Imp (.l 3 Uc s) (.l 3 Uc s))∧(Yn Qdel del=Yn Qdel del)∧(runL (Ym s del) (((s.length:Int)-((idxI del s)+1)).toNat+1) ((idxI del s),((idxI del s)+1),s)=(runL (Ym s del) (((s.length:Int)-((idxI del s)+1)).toNat+1) ((idxI del s),((idxI del s)+1),s))∧Int.toNat ((s.length:Int)-((idxI del s)+1))<(((s.length:Int)-((idxI del s)+1)).toNat+1)∧(0≤(idxI del s)∧(idxI del s)<((idxI del s)+1))∧((idxI del s)+1)≤(s.length:Int)∧s.length≤1000000000∧(∀ k:Nat,((idxI del s)+1)≤(k:Int)→k<s.length→Qdel (s.getD k default))∧s.length=s.length)) (fun (i0:Nat×(Int×Int×List Qq)) (hi0:runL (Ym s del) i0.1 i0.2=(runL (Ym s del) (((s.length:Int)-((idxI del s)+1)).toNat+1) ((idxI del s),((idxI del s)+1),s))∧(fun (i41:Int) (j1:Int) (xs:List Qq)=>(Int.toNat ((xs.length:Int)-j1)<i0.1∧(0≤i41∧i41<j1)∧j1≤(xs.length:Int)∧xs.length≤1000000000∧(∀ k:Nat,j1≤(k:Int)→k<xs.length→Qdel (xs.getD k default))∧xs.length=s.length)) i0.2.1 i0.2.2.1 i0.2.2.2)=>(fun (m0:Nat) (i41:Int) (j1:Int) (xs:List Qq) (hI0:runL (Ym s del) (m0+1) (i41,j1,xs)=(runL (Ym s del) (((s.length:Int)-((idxI del s)+1)).toNat+1) ((idxI del s),((idxI del s)+1),s))) (_:Int.toNat ((xs.length:Int)-j1)<m0+1) (hl0:m0<i0.1) (_:0≤i41∧i41<j1) (_:j1≤(xs.length:Int)) (_:xs.length≤1000000000) (_:∀ k:Nat,j1≤(k:Int)→k<xs.length→Qdel (xs.getD k default)) (_:xs.length=s.length)=>ifd (j1<(xs.length:Int)) (fun h5 _=>ai (by omega:ib j1 xs) (ai (Eq.refl (Yn Qdel del)) (ai (Imps.pxH (ds:=Uc (xs.getD j1.toNat default)) ((by assumption:∀ k:Nat,j1≤(k:Int)→k<xs.length→Qdel (xs.getD k default)) j1.toNat (by omega) (by omega))) (ifb (!(del (xs.getD j1.toNat default))) (fun h6=>have _:=(Wb h6); ai (by omega:ib i41 xs) (ai (setr 3 Uc xs (i41).toNat (xs.getD j1.toNat default)) (ai (iok (i41+1) (by omega)) (ai (iok (j1+1) (by omega)) (Exists.intro (p:=fun j:Nat×(Int×Int×List Qq)=>(fun (i41_:Int) (j1_:Int) (xs_:List Qq)=>(((.int .i64 (i41+1):Value)=.int .i64 i41_)∧((.int .i64 (j1+1):Value)=.int .i64 j1_)∧(Imp (.l 3 Uc (Xd xs i41 j1)) (.l 3 Uc xs_))∧(Yn Qdel del=Yn Qdel del)∧((runL (Ym s del) j.1 j.2=(runL (Ym s del) (((s.length:Int)-((idxI del s)+1)).toNat+1) ((idxI del s),((idxI del s)+1),s))∧Int.toNat ((xs_.length:Int)-j1_)<j.1∧(0≤i41_∧i41_<j1_)∧j1_≤(xs_.length:Int)∧xs_.length≤1000000000∧(∀ k:Nat,j1_≤(k:Int)→k<xs_.length→Qdel (xs_.getD k default))∧xs_.length=s.length)∧j.1<i0.1))) j.2.1 j.2.2.1 j.2.2.2) (m0,((i41+1),(j1+1),(Xd xs i41 j1))) (ai rfl (ai rfl (ai ir (ai rfl (ai (ai (Qe hI0 (condT h5 (condT h6 rfl))) (ai (by (simp only [lens,ib] at*<;> omega):Int.toNat (((Xd xs i41 j1).length:Int)-(j1+1))<m0) (ai (by omega:0≤(i41+1)∧(i41+1)<(j1+1)) (ai (by (simp only [lens,ib] at*<;> omega):(j1+1)≤((Xd xs i41 j1).length:Int)) (ai (by (simp only [lens,ib] at*<;> omega):(Xd xs i41 j1).length≤1000000000) (ai (by (intro k hk hk2; (rw [Ul _ _ _ _ (by omega)]; exact (by assumption:∀ k:Nat,j1≤(k:Int)→k<xs.length→Qdel (xs.getD k default)) k (by omega) (by simpa using hk2))):∀ k:Nat,(j1+1)≤(k:Int)→k<(Xd xs i41 j1).length→Qdel ((Xd xs i41 j1).getD k default)) (by (simp only [lens,ib] at*<;> omega):(Xd xs i41 j1).length=s.length))))))) hl0)))))))))) (fun h6=>have _:=(Yl h6); ai (iok (j1+1) (by omega)) (Exists.intro (p:=fun j:Nat×(Int×Int×List Qq)=>(fun (i41_:Int) (j1_:Int) (xs_:List Qq)=>(((.int .i64 i41:Value)=.int .i64 i41_)∧((.int .i64 (j1+1):Value)=.int .i64 j1_)∧(Imp (.l 3 Uc xs) (.l 3 Uc xs_))∧(Yn Qdel del=Yn Qdel del)∧((runL (Ym s del) j.1 j.2=(runL (Ym s del) (((s.length:Int)-((idxI del s)+1)).toNat+1) ((idxI del s),((idxI del s)+1),s))∧Int.toNat ((xs_.length:Int)-j1_)<j.1∧(0≤i41_∧i41_<j1_)∧j1_≤(xs_.length:Int)∧xs_.length≤1000000000∧(∀ k:Nat,j1_≤(k:Int)→k<xs_.length→Qdel (xs_.getD k default))∧xs_.length=s.length)∧j.1<i0.1))) j.2.1 j.2.2.1 j.2.2.2) (m0,(i41,(j1+1),xs)) (ai rfl (ai rfl (ai ir (ai rfl (ai (ai (Qe hI0 (condT h5 (condF h6 rfl))) (ai (by omega:Int.toNat ((xs.length:Int)-(j1+1))<m0) (ai (by omega:0≤i41∧i41<(j1+1)) (ai (by omega:(j1+1)≤(xs.length:Int)) (ai (by omega:xs.length≤1000000000) (ai (by (intro k hk hk2; exact (by assumption:∀ k:Nat,j1≤(k:Int)→k<xs.length→Qdel (xs.getD k default)) k (by omega) hk2):∀ k:Nat,(j1+1)≤(k:Int)→k<xs.length→Qdel (xs.getD k default)) (by omega:xs.length=s.length))))))) hl0))))))))))) (fun h5 _=>(fun hD0_7:(runL (Ym s del) (((s.length:Int)-((idxI del s)+1)).toNat+1) ((idxI del s),((idxI del s)+1),s))=Lp.done (i41,j1,xs)=>Exists.intro (p:=fun j:List Qq×Int=>(fun (s1_:List Qq) (i40_:Int)=>(((.int .i64 i41:Value)=.int .i64 i40_)∧(Imp (.l 3 Uc xs) (.l 3 Uc s1_))∧(Mx s del)=Lp.done j∧(0≤i40_∧i40_≤(s1_.length:Int)))) j.1 j.2) (xs,i41) (ai rfl (ai ir (ai (Eq.symm (finD hD0_7 rfl)) (by omega:0≤i41∧i41≤(xs.length:Int)))))) (Qk hI0 (condF h5 rfl)))) (i0.1-1) i0.2.1 i0.2.2.1 i0.2.2.2 (hd1 hi0.1 hi0.2.1) (hd2 hi0.2.1) (hd3 hi0.2.1) hi0.2.2.1 hi0.2.2.2.1 hi0.2.2.2.2.1 hi0.2.2.2.2.2.1 hi0.2.2.2.2.2.2))) (fun (j:List Qq×Int) (hj:(fun (s1:List Qq) (i40:Int)=>((Mx s del)=Lp.done j∧(0≤i40∧i40≤(s1.length:Int)))) j.1 j.2)=>(fun (s1:List Qq) (i40:Int) (hJ0_8:(Mx s del)=Lp.done (s1,i40)) (_:0≤i40∧i40≤(s1.length:Int))=>ai (by omega:0≤i40∧i40≤(s1.length:Int)∧(s1.length:Int)≤(s1.length:Int)) (ai (ClearOK.mk Uc s1 ((⟨w13_,0,(⟨none,0,0⟩:SV)⟩:Qq):Qq) rfl (fun y e he=>by simp only [Uc,List.mem_cons,List.not_mem_nil,or_false] at he; rcases he with rfl | rfl | rfl <;> exact ⟨_,rfl⟩):ClearOK (.l 3 Uc s1) i40.toNat (s1.drop i40.toNat).length 3 [.string w13_,.int .i64 0,.slice none 0 0] (.l 3 Uc (s1.take i40.toNat++List.replicate (s1.drop i40.toNat).length ((⟨w13_,0,(⟨none,0,0⟩:SV)⟩:Qq):Qq)++s1.drop (i40.toNat+(s1.drop i40.toNat).length)))) (ai (by (simp only [lens,ib] at*<;> omega):0≤(0:Int)∧(0:Int)≤i40∧i40≤((s1.take i40.toNat++List.replicate (s1.drop i40.toNat).length ((⟨w13_,0,(⟨none,0,0⟩:SV)⟩:Qq):Qq)++s1.drop (i40.toNat+(s1.drop i40.toNat).length)).length:Int)) ((fun hF:(((s1.take i40.toNat++List.replicate (s1.drop i40.toNat).length ((⟨w13_,0,(⟨none,0,0⟩:SV)⟩:Qq):Qq)++s1.drop (i40.toNat+(s1.drop i40.toNat).length)).take i40.toNat):List Qq)=(F164 s del)=>ai (Imp.of_eq (congrArg (fun r:List Qq=>Dat.l 3 Uc r) hF)) trivial) (condF h3 (finD hJ0_8 rfl)))))) j.1 j.2 hj.1 hj.2)))))) (by kernel_rfl)
theorem as164 (s:List Qq) (del:Qq→Bool):F164 s del=(s.filter (fun x=>!(del x))):=by
 exact Qkb del s _ (Ym s del) (fun i j xs=>rfl)
theorem oa164 (s:List Qq) (del:Qq→Bool) (Qdel:Qq→Prop):(S164 (s.filter (fun x=>!(del x))) s del Qdel).ok Tryz.prog 164 false:=by
 intro hp; have h:=ok164 s del Qdel hp; rw [as164 s del] at h; exact h
def Kn (p:ByteArray→Bool):Uu:=⟨ByteArray,fun i=>[.c (.x (BX i 1048576))],fun i=>.bool (p i)⟩
def Xh (p:ByteArray→Bool):List Dat:=[.x (FnX Tryz.prog (Kn p))]
structure form where
 word:ByteArray
 key:Int
 checks:List (ByteArray→Bool)
 deriving Inhabited
def Hg (x:form):List Dat:=[.v (.string x.word),.v (vI x.key),.l 1 Xh x.checks]
theorem Pv (low:Int) (high:Int) {K_:Prop} (k_:K_):(True)∧(Imp (.v (vI low)) (.v (vI low)))∧(Imp (.v (vI high)) (.v (vI high)))∧K_:=⟨trivial,Imp.refl _,Imp.refl _,k_⟩
theorem kc162 (words:List ByteArray) {K_:Prop} (k_:K_):(True)∧(Imp (.l 1 eStr words) (.l 1 eStr words))∧K_:=⟨trivial,Imp.refl _,k_⟩
abbrev Ba (low:Int) (high:Int):Hint false Tryz.prog:=.call 158 (S158 low high) ((ok158 low high).to false) none
abbrev Qui (words:List ByteArray):Hint false Tryz.prog:=.call 162 (S162 words) ((ok162 words).to false) none
def Kg (x:Nat→SV):List Qq:=[⟨(⟨#[104,111,115,116]⟩:ByteArray),1,x 0⟩,⟨(⟨#[117,115,101,114]⟩:ByteArray),2,x 1⟩,⟨(⟨#[112,111,114,116]⟩:ByteArray),2,x 2⟩,⟨(⟨#[112,111,114,116]⟩:ByteArray),2,x 3⟩,⟨(⟨#[114,117,108,101]⟩:ByteArray),3,x 4⟩,⟨(⟨#[114,111,117,116,101]⟩:ByteArray),3,x 5⟩,⟨(⟨#[112,101,101,114]⟩:ByteArray),2,x 6⟩,⟨(⟨#[110,97,116]⟩:ByteArray),1,x 7⟩,⟨(⟨#[100,111,111,114]⟩:ByteArray),3,x 8⟩]
def all139:List form:=[⟨(⟨#[104,111,115,116]⟩:ByteArray),1,[(fun x0=>F159 x0)]⟩,⟨(⟨#[117,115,101,114]⟩:ByteArray),2,[(fun x0=>F159 x0),(fun x0=>F160 x0)]⟩,⟨(⟨#[112,111,114,116]⟩:ByteArray),2,[(fun x0=>F171 x0 0 7),(fun x0=>F161 x0)]⟩,⟨(⟨#[112,111,114,116]⟩:ByteArray),2,[(fun x0=>F171 x0 0 7),(fun x0=>F161 x0),(fun x0=>F173 x0 ([(⟨#[105,110]⟩:ByteArray)]:List ByteArray)),(fun x0=>F159 x0)]⟩,⟨(⟨#[114,117,108,101]⟩:ByteArray),3,[(fun x0=>F159 x0),(fun x0=>F171 x0 0 99),(fun x0=>F173 x0 ([(⟨#[112,101,114,109,105,116]⟩:ByteArray),(⟨#[100,101,110,121]⟩:ByteArray)]:List ByteArray)),(fun x0=>F161 x0),(fun x0=>F161 x0),(fun x0=>F171 x0 0 7)]⟩,⟨(⟨#[114,111,117,116,101]⟩:ByteArray),3,[(fun x0=>F161 x0),(fun x0=>F163 x0)]⟩,⟨(⟨#[112,101,101,114]⟩:ByteArray),2,[(fun x0=>F163 x0),(fun x0=>F171 x0 1 9),(fun x0=>F171 x0 1 999999)]⟩,⟨(⟨#[110,97,116]⟩:ByteArray),1,[(fun x0=>F161 x0),(fun x0=>F163 x0),(fun x0=>F171 x0 1 65535),(fun x0=>F171 x0 1 65535)]⟩,⟨(⟨#[100,111,111,114]⟩:ByteArray),3,[(fun x0=>F171 x0 1 7),(fun x0=>F171 x0 1 65535),(fun x0=>F163 x0),(fun x0=>F171 x0 1 65535)]⟩]
def Vx (x:Nat→SV):List (Value×Dat):=[(sv (x 0),.l 1 Xh [(fun x0=>F159 x0)]),(sv (x 1),.l 1 Xh [(fun x0=>F159 x0),(fun x0=>F160 x0)]),(sv (x 2),.l 1 Xh [(fun x0=>F171 x0 0 7),(fun x0=>F161 x0)]),(sv (x 3),.l 1 Xh [(fun x0=>F171 x0 0 7),(fun x0=>F161 x0),(fun x0=>F173 x0 ([(⟨#[105,110]⟩:ByteArray)]:List ByteArray)),(fun x0=>F159 x0)]),(sv (x 4),.l 1 Xh [(fun x0=>F159 x0),(fun x0=>F171 x0 0 99),(fun x0=>F173 x0 ([(⟨#[112,101,114,109,105,116]⟩:ByteArray),(⟨#[100,101,110,121]⟩:ByteArray)]:List ByteArray)),(fun x0=>F161 x0),(fun x0=>F161 x0),(fun x0=>F171 x0 0 7)]),(sv (x 5),.l 1 Xh [(fun x0=>F161 x0),(fun x0=>F163 x0)]),(sv (x 6),.l 1 Xh [(fun x0=>F163 x0),(fun x0=>F171 x0 1 9),(fun x0=>F171 x0 1 999999)]),(sv (x 7),.l 1 Xh [(fun x0=>F161 x0),(fun x0=>F163 x0),(fun x0=>F171 x0 1 65535),(fun x0=>F171 x0 1 65535)]),(sv (x 8),.l 1 Xh [(fun x0=>F171 x0 1 7),(fun x0=>F171 x0 1 65535),(fun x0=>F163 x0),(fun x0=>F171 x0 1 65535)])]
def Qqm:FnH Tryz.prog:=⟨true,159,Kn (fun x0=>F159 x0),[],rfl,True,fun i=>Qfr (ok159 i)⟩
theorem Qsj:Ub Tryz.prog 159=true:=by kernel_rfl
def fh160:FnH Tryz.prog:=⟨true,160,Kn (fun x0=>F160 x0),[],rfl,True,fun i=>Qfr (ok160 i)⟩
theorem ca160:Ub Tryz.prog 160=true:=by kernel_rfl
def Qfk:FnH Tryz.prog:=⟨false,161,Kn (fun x0=>F161 x0),[],rfl,True,fun i=>Qfr (ok161 i)⟩
theorem Qec:Ub Tryz.prog 161=true:=by kernel_rfl
def Qro:FnH Tryz.prog:=⟨false,163,Kn (fun x0=>F163 x0),[],rfl,True,fun i=>Qfr (ok163 i)⟩
theorem Qrb:Ub Tryz.prog 163=true:=by kernel_rfl
def Ge (a b:Int):FnH Tryz.prog:=⟨false,171,Kn (fun x0=>F171 x0 a b),[.rp [.v (vI a)],.rp [.v (vI b)]],rfl,True,fun i=>Qfr (ok171 i a b)⟩
theorem Gh:Ub Tryz.prog 171=true:=by kernel_rfl
def fh173 (l:List ByteArray):FnH Tryz.prog:=⟨true,173,Kn (fun x0=>F173 x0 l),[.rp [.l 1 eStr l]],rfl,True,fun i=>Qfr (ok173 i l)⟩
theorem ca173:Ub Tryz.prog 173=true:=by kernel_rfl
theorem Ufh (word:ByteArray):Qmj Tryz.prog 45 (fun _:Unit=>(⟨[(1,some (.p 0 0)),(5,some (.h 1 0)),(8,some (.h 2 0))],[(0,some (.box 9 [.v (.string word)])),(1,some (.arr 9 [.v (.string (⟨#[104,111,115,116]⟩:ByteArray)),.v (vI 1),.h 2 0,.v (.string (⟨#[117,115,101,114]⟩:ByteArray)),.v (vI 2),.h 3 0,.v (.string (⟨#[112,111,114,116]⟩:ByteArray)),.v (vI 2),.h 4 0,.v (.string (⟨#[112,111,114,116]⟩:ByteArray)),.v (vI 2),.h 7 0,.v (.string (⟨#[114,117,108,101]⟩:ByteArray)),.v (vI 3),.h 12 0,.v (.string (⟨#[114,111,117,116,101]⟩:ByteArray)),.v (vI 3),.h 19 0,.v (.string (⟨#[112,101,101,114]⟩:ByteArray)),.v (vI 2),.h 20 0,.v (.string (⟨#[110,97,116]⟩:ByteArray)),.v (vI 1),.h 25 0,.v (.string (⟨#[100,111,111,114]⟩:ByteArray)),.v (vI 3),.h 28 0])),(2,some (.arr 1 [.cl 159 []])),(3,some (.arr 2 [.cl 159 [],.cl 160 []])),(4,some (.arr 2 [.cl 171 [.p 5 0,.p 6 0],.cl 161 []])),(5,some (.box 3 [.v (vI 0)])),(6,some (.box 3 [.v (vI 7)])),(7,some (.arr 4 [.cl 171 [.p 8 0,.p 9 0],.cl 161 [],.cl 173 [.p 10 0],.cl 159 []])),(8,some (.box 3 [.v (vI 0)])),(9,some (.box 3 [.v (vI 7)])),(10,some (.box 22 [.h 11 0])),(11,some (.own 11 (.l 1 eStr ([(⟨#[105,110]⟩:ByteArray)]:List ByteArray)))),(12,some (.arr 6 [.cl 159 [],.cl 171 [.p 13 0,.p 14 0],.cl 173 [.p 15 0],.cl 161 [],.cl 161 [],.cl 171 [.p 17 0,.p 18 0]])),(13,some (.box 3 [.v (vI 0)])),(14,some (.box 3 [.v (vI 99)])),(15,some (.box 22 [.h 16 0])),(16,some (.own 16 (.l 1 eStr ([(⟨#[112,101,114,109,105,116]⟩:ByteArray),(⟨#[100,101,110,121]⟩:ByteArray)]:List ByteArray)))),(17,some (.box 3 [.v (vI 0)])),(18,some (.box 3 [.v (vI 7)])),(19,some (.arr 2 [.cl 161 [],.cl 163 []])),(20,some (.arr 3 [.cl 163 [],.cl 171 [.p 21 0,.p 22 0],.cl 171 [.p 23 0,.p 24 0]])),(21,some (.box 3 [.v (vI 1)])),(22,some (.box 3 [.v (vI 9)])),(23,some (.box 3 [.v (vI 1)])),(24,some (.box 3 [.v (vI 999999)])),(25,some (.arr 4 [.cl 161 [],.cl 163 [],.cl 171 [.p 26 0,.p 27 0],.cl 171 [.p 26 0,.p 27 0]])),(26,some (.box 3 [.v (vI 1)])),(27,some (.box 3 [.v (vI 65535)])),(28,some (.arr 4 [.cl 171 [.p 29 0,.p 30 0],.cl 171 [.p 26 0,.p 27 0],.cl 163 [],.cl 171 [.p 26 0,.p 27 0]])),(29,some (.box 3 [.v (vI 1)])),(30,some (.box 3 [.v (vI 7)]))],31⟩:St)) (fun _=>True) (fun x:Nat→SV=>(⟨[(1,some (.p 0 0)),(5,some (.h 1 0)),(8,some (.h 2 0))],[(0,some (.box 9 [.v (.string word)])),(1,some (.own 1 (.l 3 Uc (Kg x)))),(2,some (.own 2 (.x (LX (Vx x)))))],31⟩:St)) (fun _=>True):=by
 intro ψ IN w0 w a i _ H
 obtain ⟨β,φ,dom,V⟩:=H
 have R:=V.rel
 have hall:Qnq (fsG (⟨[(1,some (.p 0 0)),(5,some (.h 1 0)),(8,some (.h 2 0))],[(0,some (.box 9 [.v (.string word)])),(1,some (.arr 9 [.v (.string (⟨#[104,111,115,116]⟩:ByteArray)),.v (vI 1),.h 2 0,.v (.string (⟨#[117,115,101,114]⟩:ByteArray)),.v (vI 2),.h 3 0,.v (.string (⟨#[112,111,114,116]⟩:ByteArray)),.v (vI 2),.h 4 0,.v (.string (⟨#[112,111,114,116]⟩:ByteArray)),.v (vI 2),.h 7 0,.v (.string (⟨#[114,117,108,101]⟩:ByteArray)),.v (vI 3),.h 12 0,.v (.string (⟨#[114,111,117,116,101]⟩:ByteArray)),.v (vI 3),.h 19 0,.v (.string (⟨#[112,101,101,114]⟩:ByteArray)),.v (vI 2),.h 20 0,.v (.string (⟨#[110,97,116]⟩:ByteArray)),.v (vI 1),.h 25 0,.v (.string (⟨#[100,111,111,114]⟩:ByteArray)),.v (vI 3),.h 28 0])),(2,some (.arr 1 [.cl 159 []])),(3,some (.arr 2 [.cl 159 [],.cl 160 []])),(4,some (.arr 2 [.cl 171 [.p 5 0,.p 6 0],.cl 161 []])),(5,some (.box 3 [.v (vI 0)])),(6,some (.box 3 [.v (vI 7)])),(7,some (.arr 4 [.cl 171 [.p 8 0,.p 9 0],.cl 161 [],.cl 173 [.p 10 0],.cl 159 []])),(8,some (.box 3 [.v (vI 0)])),(9,some (.box 3 [.v (vI 7)])),(10,some (.box 22 [.h 11 0])),(11,some (.own 11 (.l 1 eStr ([(⟨#[105,110]⟩:ByteArray)]:List ByteArray)))),(12,some (.arr 6 [.cl 159 [],.cl 171 [.p 13 0,.p 14 0],.cl 173 [.p 15 0],.cl 161 [],.cl 161 [],.cl 171 [.p 17 0,.p 18 0]])),(13,some (.box 3 [.v (vI 0)])),(14,some (.box 3 [.v (vI 99)])),(15,some (.box 22 [.h 16 0])),(16,some (.own 16 (.l 1 eStr ([(⟨#[112,101,114,109,105,116]⟩:ByteArray),(⟨#[100,101,110,121]⟩:ByteArray)]:List ByteArray)))),(17,some (.box 3 [.v (vI 0)])),(18,some (.box 3 [.v (vI 7)])),(19,some (.arr 2 [.cl 161 [],.cl 163 []])),(20,some (.arr 3 [.cl 163 [],.cl 171 [.p 21 0,.p 22 0],.cl 171 [.p 23 0,.p 24 0]])),(21,some (.box 3 [.v (vI 1)])),(22,some (.box 3 [.v (vI 9)])),(23,some (.box 3 [.v (vI 1)])),(24,some (.box 3 [.v (vI 999999)])),(25,some (.arr 4 [.cl 161 [],.cl 163 [],.cl 171 [.p 26 0,.p 27 0],.cl 171 [.p 26 0,.p 27 0]])),(26,some (.box 3 [.v (vI 1)])),(27,some (.box 3 [.v (vI 65535)])),(28,some (.arr 4 [.cl 171 [.p 29 0,.p 30 0],.cl 171 [.p 26 0,.p 27 0],.cl 163 [],.cl 171 [.p 26 0,.p 27 0]])),(29,some (.box 3 [.v (vI 1)])),(30,some (.box 3 [.v (vI 7)]))],31⟩:St).fs) [2,3,4,5,6,7,8,9,10,11,12,13,14,15,16,17,18,19,20,21,22,23,24,25,26,27,28,29,30]=true:=rfl
 have hS:∀ id∈[2,3,4,5,6,7,8,9,10,11,12,13,14,15,16,17,18,19,20,21,22,23,24,25,26,27,28,29,30],∀ b∈φ id,b∈[2,3,4,5,6,7,8,9,10,11,12,13,14,15,16,17,18,19,20,21,22,23,24,25,26,27,28,29,30].flatMap φ:=fun id hid b hb=>List.mem_flatMap.2 ⟨id,hid,hb⟩
 have hlt:=R.flat_lt (Qfv hall)
 have e2:=Xb R (show fsG _ 2=_ from rfl)
 have e3:=Xb R (show fsG _ 3=_ from rfl)
 have e4:=Xb R (show fsG _ 4=_ from rfl)
 have e7:=Xb R (show fsG _ 7=_ from rfl)
 have e12:=Xb R (show fsG _ 12=_ from rfl)
 have e19:=Xb R (show fsG _ 19=_ from rfl)
 have e20:=Xb R (show fsG _ 20=_ from rfl)
 have e25:=Xb R (show fsG _ 25=_ from rfl)
 have e28:=Xb R (show fsG _ 28=_ from rfl)
 have he:([.v (.string (⟨#[104,111,115,116]⟩:ByteArray)),.v (vI 1),.v (sv (toSV (β 2 0))),.v (.string (⟨#[117,115,101,114]⟩:ByteArray)),.v (vI 2),.v (sv (toSV (β 3 0))),.v (.string (⟨#[112,111,114,116]⟩:ByteArray)),.v (vI 2),.v (sv (toSV (β 4 0))),.v (.string (⟨#[112,111,114,116]⟩:ByteArray)),.v (vI 2),.v (sv (toSV (β 7 0))),.v (.string (⟨#[114,117,108,101]⟩:ByteArray)),.v (vI 3),.v (sv (toSV (β 12 0))),.v (.string (⟨#[114,111,117,116,101]⟩:ByteArray)),.v (vI 3),.v (sv (toSV (β 19 0))),.v (.string (⟨#[112,101,101,114]⟩:ByteArray)),.v (vI 2),.v (sv (toSV (β 20 0))),.v (.string (⟨#[110,97,116]⟩:ByteArray)),.v (vI 1),.v (sv (toSV (β 25 0))),.v (.string (⟨#[100,111,111,114]⟩:ByteArray)),.v (vI 3),.v (sv (toSV (β 28 0)))]:List Dat)=[.v (.string (⟨#[104,111,115,116]⟩:ByteArray)),.v (vI 1),.v (β 2 0),.v (.string (⟨#[117,115,101,114]⟩:ByteArray)),.v (vI 2),.v (β 3 0),.v (.string (⟨#[112,111,114,116]⟩:ByteArray)),.v (vI 2),.v (β 4 0),.v (.string (⟨#[112,111,114,116]⟩:ByteArray)),.v (vI 2),.v (β 7 0),.v (.string (⟨#[114,117,108,101]⟩:ByteArray)),.v (vI 3),.v (β 12 0),.v (.string (⟨#[114,111,117,116,101]⟩:ByteArray)),.v (vI 3),.v (β 19 0),.v (.string (⟨#[112,101,101,114]⟩:ByteArray)),.v (vI 2),.v (β 20 0),.v (.string (⟨#[110,97,116]⟩:ByteArray)),.v (vI 1),.v (β 25 0),.v (.string (⟨#[100,111,111,114]⟩:ByteArray)),.v (vI 3),.v (β 28 0)]:=by rw [← e2,← e3,← e4,← e7,← e12,← e19,← e20,← e25,← e28]
 refine ⟨fun k=>toSV (β (([2,3,4,7,12,19,20,25,28]:List Nat).getD k 0) 0),trivial,pack3 (bx:=[.string word]) (rest:=[2,3,4,5,6,7,8,9,10,11,12,13,14,15,16,17,18,19,20,21,22,23,24,25,26,27,28,29,30]) V rfl ⟨_,rfl,rfl⟩ hall (by decide) (R.ok 2 _ rfl).1 (Ugn R (show fsG _ 1=_ from rfl) rfl (by decide) (fun _=>rfl) he) (fun hnd _=>⟨⟨R.all1 2 0,?_⟩,hnd,hlt⟩)⟩
 exact ⟨RdV.at_sv e2 (Wt R (F:=Kn) (show fsG _ 2=_ from rfl) rfl (by decide) (fun _=>rfl) (hS 2 (by decide)) ⟨_,_,rfl,Yv Qqm rfl trivial hlt Qsj rfl,rfl⟩),
  RdV.at_sv e3 (Wt R (F:=Kn) (show fsG _ 3=_ from rfl) rfl (by decide) (fun _=>rfl) (hS 3 (by decide)) ⟨_,_,rfl,Yv Qqm rfl trivial hlt Qsj rfl,⟨_,_,rfl,Yv fh160 rfl trivial hlt ca160 rfl,rfl⟩⟩),
  RdV.at_sv e4 (Wt R (F:=Kn) (show fsG _ 4=_ from rfl) rfl (by decide) (fun _=>rfl) (hS 4 (by decide)) ⟨_,_,rfl,Jl R (Ge 0 7) (show fsG _ 5=_ from rfl) (show fsG _ 6=_ from rfl) rfl trivial (hS 5 (by decide)) (hS 6 (by decide)) hlt Gh rfl rfl rfl,⟨_,_,rfl,Yv Qfk rfl trivial hlt Qec rfl,rfl⟩⟩),
  RdV.at_sv e7 (Wt R (F:=Kn) (show fsG _ 7=_ from rfl) rfl (by decide) (fun _=>rfl) (hS 7 (by decide)) ⟨_,_,rfl,Jl R (Ge 0 7) (show fsG _ 8=_ from rfl) (show fsG _ 9=_ from rfl) rfl trivial (hS 8 (by decide)) (hS 9 (by decide)) hlt Gh rfl rfl rfl,⟨_,_,rfl,Yv Qfk rfl trivial hlt Qec rfl,⟨_,_,rfl,Uae R (fh173 ([(⟨#[105,110]⟩:ByteArray)]:List ByteArray)) (show fsG _ 10=_ from rfl) (show fsG _ 11=_ from rfl) rfl trivial (hS 10 (by decide)) (hS 11 (by decide)) hlt ca173 rfl,⟨_,_,rfl,Yv Qqm rfl trivial hlt Qsj rfl,rfl⟩⟩⟩⟩),
  RdV.at_sv e12 (Wt R (F:=Kn) (show fsG _ 12=_ from rfl) rfl (by decide) (fun _=>rfl) (hS 12 (by decide)) ⟨_,_,rfl,Yv Qqm rfl trivial hlt Qsj rfl,⟨_,_,rfl,Jl R (Ge 0 99) (show fsG _ 13=_ from rfl) (show fsG _ 14=_ from rfl) rfl trivial (hS 13 (by decide)) (hS 14 (by decide)) hlt Gh rfl rfl rfl,⟨_,_,rfl,Uae R (fh173 ([(⟨#[112,101,114,109,105,116]⟩:ByteArray),(⟨#[100,101,110,121]⟩:ByteArray)]:List ByteArray)) (show fsG _ 15=_ from rfl) (show fsG _ 16=_ from rfl) rfl trivial (hS 15 (by decide)) (hS 16 (by decide)) hlt ca173 rfl,⟨_,_,rfl,Yv Qfk rfl trivial hlt Qec rfl,⟨_,_,rfl,Yv Qfk rfl trivial hlt Qec rfl,⟨_,_,rfl,Jl R (Ge 0 7) (show fsG _ 17=_ from rfl) (show fsG _ 18=_ from rfl) rfl trivial (hS 17 (by decide)) (hS 18 (by decide)) hlt Gh rfl rfl rfl,rfl⟩⟩⟩⟩⟩⟩),
  RdV.at_sv e19 (Wt R (F:=Kn) (show fsG _ 19=_ from rfl) rfl (by decide) (fun _=>rfl) (hS 19 (by decide)) ⟨_,_,rfl,Yv Qfk rfl trivial hlt Qec rfl,⟨_,_,rfl,Yv Qro rfl trivial hlt Qrb rfl,rfl⟩⟩),
  RdV.at_sv e20 (Wt R (F:=Kn) (show fsG _ 20=_ from rfl) rfl (by decide) (fun _=>rfl) (hS 20 (by decide)) ⟨_,_,rfl,Yv Qro rfl trivial hlt Qrb rfl,⟨_,_,rfl,Jl R (Ge 1 9) (show fsG _ 21=_ from rfl) (show fsG _ 22=_ from rfl) rfl trivial (hS 21 (by decide)) (hS 22 (by decide)) hlt Gh rfl rfl rfl,⟨_,_,rfl,Jl R (Ge 1 999999) (show fsG _ 23=_ from rfl) (show fsG _ 24=_ from rfl) rfl trivial (hS 23 (by decide)) (hS 24 (by decide)) hlt Gh rfl rfl rfl,rfl⟩⟩⟩),
  RdV.at_sv e25 (Wt R (F:=Kn) (show fsG _ 25=_ from rfl) rfl (by decide) (fun _=>rfl) (hS 25 (by decide)) ⟨_,_,rfl,Yv Qfk rfl trivial hlt Qec rfl,⟨_,_,rfl,Yv Qro rfl trivial hlt Qrb rfl,⟨_,_,rfl,Jl R (Ge 1 65535) (show fsG _ 26=_ from rfl) (show fsG _ 27=_ from rfl) rfl trivial (hS 26 (by decide)) (hS 27 (by decide)) hlt Gh rfl rfl rfl,⟨_,_,rfl,Jl R (Ge 1 65535) (show fsG _ 26=_ from rfl) (show fsG _ 27=_ from rfl) rfl trivial (hS 26 (by decide)) (hS 27 (by decide)) hlt Gh rfl rfl rfl,rfl⟩⟩⟩⟩),
  RdV.at_sv e28 (Wt R (F:=Kn) (show fsG _ 28=_ from rfl) rfl (by decide) (fun _=>rfl) (hS 28 (by decide)) ⟨_,_,rfl,Jl R (Ge 1 7) (show fsG _ 29=_ from rfl) (show fsG _ 30=_ from rfl) rfl trivial (hS 29 (by decide)) (hS 30 (by decide)) hlt Gh rfl rfl rfl,⟨_,_,rfl,Jl R (Ge 1 65535) (show fsG _ 26=_ from rfl) (show fsG _ 27=_ from rfl) rfl trivial (hS 26 (by decide)) (hS 27 (by decide)) hlt Gh rfl rfl rfl,⟨_,_,rfl,Yv Qro rfl trivial hlt Qrb rfl,⟨_,_,rfl,Jl R (Ge 1 65535) (show fsG _ 26=_ from rfl) (show fsG _ 27=_ from rfl) rfl trivial (hS 26 (by decide)) (hS 27 (by decide)) hlt Gh rfl rfl rfl,rfl⟩⟩⟩⟩),trivial⟩
theorem Udx (word:ByteArray) (x:Nat→SV):Qmj Tryz.prog 45 (fun _:Unit=>(⟨[(2,some (.h 0 0)),(8,some (.h 1 0))],[(0,some (.own 0 (.l 3 Uc ((Kg x).filter (fun x=>!((fun (x0:Qq)=>F165 x0 word) x)))))),(1,some (.own 1 (.x (LX (Vx x)))))],2⟩:St)) (fun _=>True) (fun _:Unit=>(⟨[(2,some (.h 0 0))],[(0,some (.own 0 (.b (.l 3 Hg (all139.filter (fun z=>z.word.toList==word.toList))))))],2⟩:St)) (fun _=>True):=by
 intro ψ IN w0 w a i _ H
 refine ⟨(),trivial,pack1 rfl rfl rfl (fun v y f g h1 h2=>?_) H⟩
 have hx:RdAll (fun b=>b∈f++g) w (Vx x):=h2.1.2.mono fun b hb=>⟨List.mem_append_right _ hb,rfl⟩
 have hall:Rel2 (fun (y:Qq) (z:form)=>y.word=z.word∧∀ cs,RdVs (fun b=>b∈f++g) w (Uc y) cs→RdVs (fun b=>b∈f++g) w (Hg z) cs) (Kg x) all139:=⟨⟨rfl,row3 hx.1⟩,⟨rfl,row3 hx.2.1⟩,⟨rfl,row3 hx.2.2.1⟩,⟨rfl,row3 hx.2.2.2.1⟩,⟨rfl,row3 hx.2.2.2.2.1⟩,⟨rfl,row3 hx.2.2.2.2.2.1⟩,⟨rfl,row3 hx.2.2.2.2.2.2.1⟩,⟨rfl,row3 hx.2.2.2.2.2.2.2.1⟩,⟨rfl,row3 hx.2.2.2.2.2.2.2.2.1⟩,trivial⟩
 refine Qtl h1 (fun b hb=>List.mem_append_left _ hb) (Rel2.mono (fun a c h=>h.2) (Rel2.filter (fun y z h=>?_) hall))
 simp only [F165,h.1,Bool.not_not]
def F139 (word:ByteArray):List form :=
 (all139.filter (fun z=>z.word.toList==word.toList))
def S139 (word:ByteArray):Spec:=⟨[.r (.c (.v (.string word)))],.ow (.b (.l 3 Hg (F139 word))),True⟩
theorem ok139 (word:ByteArray):(S139 word).ok Tryz.prog 139 false :=
 Qn mixed (fn:=Tryz.f139) (ct:=.seq .no (.seq (.reg [(0,Ba 1 65535),(1,Ba 1 7)]) (.hnd (ι:=Unit) (κ:=(Nat→SV)) (fun _=>(⟨[(1,some (.p 0 0)),(5,some (.h 1 0)),(8,some (.h 2 0))],[(0,some (.box 9 [.v (.string word)])),(1,some (.arr 9 [.v (.string w4_),.v (vI 1),.h 2 0,.v (.string w10_),.v (vI 2),.h 3 0,.v (.string w7_),.v (vI 2),.h 4 0,.v (.string w7_),.v (vI 2),.h 7 0,.v (.string w9_),.v (vI 3),.h 12 0,.v (.string w8_),.v (vI 3),.h 19 0,.v (.string w6_),.v (vI 2),.h 20 0,.v (.string w5_),.v (vI 1),.h 25 0,.v (.string w3_),.v (vI 3),.h 28 0])),(2,some (.arr 1 [.cl 159 []])),(3,some (.arr 2 [.cl 159 [],.cl 160 []])),(4,some (.arr 2 [.cl 171 [.p 5 0,.p 6 0],.cl 161 []])),(5,some (.box 3 [.v (vI 0)])),(6,some (.box 3 [.v (vI 7)])),(7,some (.arr 4 [.cl 171 [.p 8 0,.p 9 0],.cl 161 [],.cl 173 [.p 10 0],.cl 159 []])),(8,some (.box 3 [.v (vI 0)])),(9,some (.box 3 [.v (vI 7)])),(10,some (.box 22 [.h 11 0])),(11,some (.own 11 (.l 1 eStr ([w18_]:List ByteArray)))),(12,some (.arr 6 [.cl 159 [],.cl 171 [.p 13 0,.p 14 0],.cl 173 [.p 15 0],.cl 161 [],.cl 161 [],.cl 171 [.p 17 0,.p 18 0]])),(13,some (.box 3 [.v (vI 0)])),(14,some (.box 3 [.v (vI 99)])),(15,some (.box 22 [.h 16 0])),(16,some (.own 16 (.l 1 eStr ([w19_,w20_]:List ByteArray)))),(17,some (.box 3 [.v (vI 0)])),(18,some (.box 3 [.v (vI 7)])),(19,some (.arr 2 [.cl 161 [],.cl 163 []])),(20,some (.arr 3 [.cl 163 [],.cl 171 [.p 21 0,.p 22 0],.cl 171 [.p 23 0,.p 24 0]])),(21,some (.box 3 [.v (vI 1)])),(22,some (.box 3 [.v (vI 9)])),(23,some (.box 3 [.v (vI 1)])),(24,some (.box 3 [.v (vI 999999)])),(25,some (.arr 4 [.cl 161 [],.cl 163 [],.cl 171 [.p 26 0,.p 27 0],.cl 171 [.p 26 0,.p 27 0]])),(26,some (.box 3 [.v (vI 1)])),(27,some (.box 3 [.v (vI 65535)])),(28,some (.arr 4 [.cl 171 [.p 29 0,.p 30 0],.cl 171 [.p 26 0,.p 27 0],.cl 163 [],.cl 171 [.p 26 0,.p 27 0]])),(29,some (.box 3 [.v (vI 1)])),(30,some (.box 3 [.v (vI 7)]))],31⟩:St)) (fun _=>True) (fun (x:Nat→SV)=>(⟨[(1,some (.p 0 0)),(5,some (.h 1 0)),(8,some (.h 2 0))],[(0,some (.box 9 [.v (.string word)])),(1,some (.own 1 (.l 3 Uc (Kg x)))),(2,some (.own 2 (.x (LX (Vx x)))))],31⟩:St)) (fun _=>True) (.reg [(4,Ba 0 7),(7,Ba 0 7),(8,.dat (.l 1 eStr ([w18_]:List ByteArray))),(9,Qui ([w18_]:List ByteArray)),(12,Ba 0 99),(13,.dat (.l 1 eStr ([w19_,w20_]:List ByteArray))),(14,Qui ([w19_,w20_]:List ByteArray)),(15,Ba 0 7),(20,Ba 1 9),(21,Ba 1 999999)]) (fun (x:Nat→SV)=>.hnd (ι:=Unit) (κ:=Unit) (fun _=>(⟨[(2,some (.h 0 0)),(8,some (.h 1 0))],[(0,some (.own 0 (.l 3 Uc ((Kg x).filter (fun x=>!((fun (x0:Qq)=>F165 x0 word) x)))))),(1,some (.own 1 (.x (LX (Vx x)))))],2⟩:St)) (fun _=>True) (fun (_:Unit)=>(⟨[(2,some (.h 0 0))],[(0,some (.own 0 (.b (.l 3 Hg (all139.filter (fun z=>z.word.toList==word.toList))))))],2⟩:St)) (fun _=>True) (.reg [(2,.call 164 (S164 ((Kg x).filter (fun x=>!((fun (x0:Qq)=>F165 x0 word) x))) (Kg x) (fun (x0:Qq)=>F165 x0 word) (fun (x0:Qq)=>True)) (oa164 (Kg x) (fun (x0:Qq)=>F165 x0 word) (fun (x0:Qq)=>True)) (some ⟨true,165,Yn (fun (x0:Qq)=>True) (fun (x0:Qq)=>F165 x0 word),[.rp ([.v (.string word)])],rfl,True,fun i=>Qvd (ok165 i word)⟩))]) (fun (_:Unit)=>.no))))) Tryz.func139 (fun (_:True)=>Pv 1 65535 (Pv 1 7 (ai (Pv 0 7 (Pv 0 7 (ai (bokr 1 eStr ([w18_]:List ByteArray) fun _=>rfl) (kc162 ([w18_]:List ByteArray) (Pv 0 99 (ai (bokr 1 eStr ([w19_,w20_]:List ByteArray) fun _=>rfl) (kc162 ([w19_,w20_]:List ByteArray) (Pv 0 7 (Pv 1 9 (Pv 1 999999 (Exists.intro (p:=fun (_:Unit)=>((.string word:Value)=.string word)∧((.string w4_:Value)=.string w4_)∧((.int .i64 1:Value)=.int .i64 1)∧((.string w10_:Value)=.string w10_)∧((.int .i64 2:Value)=.int .i64 2)∧((.string w7_:Value)=.string w7_)∧((.int .i64 2:Value)=.int .i64 2)∧((.string w7_:Value)=.string w7_)∧((.int .i64 2:Value)=.int .i64 2)∧((.string w9_:Value)=.string w9_)∧((.int .i64 3:Value)=.int .i64 3)∧((.string w8_:Value)=.string w8_)∧((.int .i64 3:Value)=.int .i64 3)∧((.string w6_:Value)=.string w6_)∧((.int .i64 2:Value)=.int .i64 2)∧((.string w5_:Value)=.string w5_)∧((.int .i64 1:Value)=.int .i64 1)∧((.string w3_:Value)=.string w3_)∧((.int .i64 3:Value)=.int .i64 3)∧((.int .i64 0:Value)=.int .i64 0)∧((.int .i64 7:Value)=.int .i64 7)∧((.int .i64 0:Value)=.int .i64 0)∧((.int .i64 7:Value)=.int .i64 7)∧(Imp (.l 1 eStr ([w18_]:List ByteArray)) (.l 1 eStr ([w18_]:List ByteArray)))∧((.int .i64 0:Value)=.int .i64 0)∧((.int .i64 99:Value)=.int .i64 99)∧(Imp (.l 1 eStr ([w19_,w20_]:List ByteArray)) (.l 1 eStr ([w19_,w20_]:List ByteArray)))∧((.int .i64 0:Value)=.int .i64 0)∧((.int .i64 7:Value)=.int .i64 7)∧((.int .i64 1:Value)=.int .i64 1)∧((.int .i64 9:Value)=.int .i64 9)∧((.int .i64 1:Value)=.int .i64 1)∧((.int .i64 999999:Value)=.int .i64 999999)∧((.int .i64 1:Value)=.int .i64 1)∧((.int .i64 65535:Value)=.int .i64 65535)∧((.int .i64 1:Value)=.int .i64 1)∧((.int .i64 7:Value)=.int .i64 7)∧True) () (ai rfl (ai rfl (ai rfl (ai rfl (ai rfl (ai rfl (ai rfl (ai rfl (ai rfl (ai rfl (ai rfl (ai rfl (ai rfl (ai rfl (ai rfl (ai rfl (ai rfl (ai rfl (ai rfl (ai rfl (ai rfl (ai rfl (ai rfl (ai ir (ai rfl (ai rfl (ai ir (ai rfl (ai rfl (ai rfl (ai rfl (ai rfl (ai rfl (ai rfl (ai rfl (ai rfl (ai rfl trivial)))))))))))))))))))))))))))))))))))))))))))))))) (ai (Ufh word) (fun (x:Nat→SV) (_:True)=>ai (ai (ai (by exact (by decide:(9:Nat)≤1000000000):(Kg x).length≤1000000000) (by (intros; exact trivial):∀ k:Nat,k<(Kg x).length→(fun (x0:Qq)=>True) ((Kg x).getD k default))) (ai (Imp.refl (.l 3 Uc (Kg x))) (ai (Eq.refl (Yn (fun (x0:Qq)=>True) (fun (x0:Qq)=>F165 x0 word))) (ai trivial (ai (Imps.refl [.v (.string word)]) (Exists.intro (p:=fun (_:Unit)=>(Imp (.l 3 Uc ((Kg x).filter (fun x=>!((fun (x0:Qq)=>F165 x0 word) x)))) (.l 3 Uc ((Kg x).filter (fun x=>!((fun (x0:Qq)=>F165 x0 word) x)))))∧(Imp (.x (LX (Vx x))) (.x (LX (Vx x))))∧True) () (ai ir (ai ir trivial)))))))) (ai (Udx word x) (fun (_:Unit) (_:True)=>(fun hF:((all139.filter (fun z=>z.word.toList==word.toList)):List form)=(F139 word)=>ai (Imp.of_eq (congrArg (fun r:List form=>Dat.b (Dat.l 3 Hg r)) hF)) trivial) rfl))))))) (by kernel_rfl)
theorem g139_0 (word:ByteArray):∀ k:Nat,((F139 word).getD k default).checks.length≤6:=by
 have hall:∀ z∈all139,z.checks.length≤6:=by
  intro z hz
  simp only [all139,List.mem_cons,List.not_mem_nil,or_false] at hz
  rcases hz with rfl | rfl | rfl | rfl | rfl | rfl | rfl | rfl | rfl <;> decide
 intro k
 rw [List.getD_eq_getElem?_getD]
 cases h:(F139 word)[k]? with
 | none=>exact Nat.zero_le 6
 | some z=>exact hall z (List.mem_filter.1 (List.mem_of_getElem? h)).1
def Jo (f:form) (words:List ByteArray):Int→Lp Int Bool:=fun v17 =>
 bif (decide (v17<(f.checks.length:Int))) then (bif (!((f.checks.getD v17.toNat default) (words.getD (v17+1).toNat default))) then (.ret false) else (.next (v17+1))) else (.done v17)
def F140 (f:form) (words:List ByteArray):Bool :=
 bif ((words.length:Int) != ((f.checks.length:Int)+1)) then false else ((runL (Jo f words) (((f.checks.length:Int)-0).toNat+1) 0).fin (fun r=>r) (fun v17=>true))
abbrev Lx (f:form):Nat×Int:=((((f.checks.length:Int)-0).toNat+1),0)
abbrev Qgv (f:form) (m39:Nat) (v17:Int):Prop:=Int.toNat ((f.checks.length:Int)-v17)<m39∧(0:Int)≤v17
abbrev Qos (f:form) (words:List ByteArray):Lp Int Bool:=LpX (Jo f words) (Lx f)
abbrev Mb (f:form) (words:List ByteArray) (i:Nat×Int):Prop:=LpJ (Jo f words) (Lx f) i (Qgv f i.1 i.2)
abbrev Qqa (f:form) (words:List ByteArray) (i:Nat×Int) (m39:Nat) (v17:Int):Prop:=LpH (Jo f words) (Lx f) i m39 v17 (Qgv f (m39+1) v17)
abbrev Qqd (f:form) (words:List ByteArray) (v17:Int) (v17_:Int) (K39:Prop):Prop:=(Rf (.int .i64 (f.checks.length:Int)))∧((.int .i64 v17:Value)=.int .i64 v17_)∧(Im (.l 1 eStr words))∧(Im (.l 1 Xh f.checks))∧K39
theorem Ugd (f:form) (words:List ByteArray) (i:Nat×Int) (h:Mb f words i):Qqa f words i (i.1-1) i.2:=⟨hd1 h.1 h.2.1,hd3 h.2.1,hd2 h.2.1,h.2.2⟩
theorem Ueg (f:form) (words:List ByteArray) (i:Nat×Int) (m39:Nat) (v17:Int) (hl:m39<i.1) (e:runL (Jo f words) m39 v17=Qos f words) (h:Qgv f m39 v17):∃ j:Nat×Int,Qqd f words v17 j.2 (Mb f words j∧j.1<i.1):=⟨(m39,v17),rfl,rfl,Imp.refl _,Imp.refl _,⟨e,h⟩,hl⟩
theorem Uds (f:form) (words:List ByteArray) (h:(0:Int)≤0):Qqd f words 0 0 (Mb f words (Lx f)):=⟨rfl,rfl,Imp.refl _,Imp.refl _,rfl,Nat.lt_succ_self _,h⟩
def S140 (f:form) (words:List ByteArray):Spec:=⟨[.r (.g (Hg f)),.r (.c (.l 1 eStr words))],.v (.bool (F140 f words)),f.checks.length≤6∧(∀ k:Nat,(words.getD k default).size≤1048576)⟩
theorem ok140 (f:form) (words:List ByteArray):(S140 f words).ok Tryz.prog 140 false :=
 Qn mixed (fn:=Tryz.f140) (ct:=.seqk [(1,0)] .no (.seq (.seq (.reg [(5,.bnd)]) (.cond (.seq .no .no) .no)) (.seq (.seqk [(1,0),(15,0)] .no (.blk (.loop (ι:=Nat×Int) (fun i=>(fun (v17:Int)=>(⟨[(1,some (.h 0 0)),(15,some (.h 1 0)),(16,some (.v (vI (f.checks.length:Int)))),(17,some (.v (vI v17)))],[(0,some (.shr none (.l 1 eStr words))),(1,some (.shr none (.l 1 Xh f.checks)))],2⟩:St)) i.2) (Mb f words) (fun i=>i.1) (Lx f) (fun i=>(fun (v17:Int)=>(.seq .no (.seq (.cond .no .no) (.seq (.blk (.seq .no (.seq (.reg [(3,.bnd),(6,.fnv (Kn (f.checks.getD v17.toNat default)) (words.getD (v17+1).toNat default))]) (.cond (.seq .no .no) .no)))) (.reg [(0,.bnd)]))))) i.2)))) (.seq .no .no)))) Tryz.func140 (fun (hp:f.checks.length≤6∧(∀ k:Nat,(words.getD k default).size≤1048576))=>have hpre0:=hp.1; have hpre1:=hp.2; kn words fun _=>ai (iok ((f.checks.length:Int)+1) (by omega)) (ifn (words.length:Int) ((f.checks.length:Int)+1) (fun h1 _=>fiB false (F140 f words) (condT h1 rfl)) (fun h1 _=>kn words fun _=>kn f.checks fun _=>ai (Uds f words (by omega)) (fun (i0:Nat×Int) (hi0:Mb f words i0)=>(fun (m0:Nat) (v17:Int) (hh0:Qqa f words i0 m0 v17)=>have hI0:=hh0.1; have hl0:=hh0.2.1; have _:=hh0.2.2.1; have _:=hh0.2.2.2; ifd (v17<(f.checks.length:Int)) (fun h3 _=>ai (by omega:ib v17 f.checks) (ai (iok (v17+1) (by omega)) (ai (by omega:ib (v17+1) words) (ai (Eq.refl (FnX Tryz.prog (Kn (f.checks.getD v17.toNat default)))) (ai (Imp.bx (by exact hpre1 _:(words.getD (v17+1).toNat default).size≤1048576)) (ifb (!((f.checks.getD v17.toNat default) (words.getD (v17+1).toNat default))) (fun h4=>have _:=(Wb h4); fiB false (F140 f words) (condF h1 (finR (Qr hI0 (condT h3 (condT h4 rfl))) rfl))) (fun h4=>have _:=(Yl h4); ai (iok (v17+1) (by omega)) (Ueg f words i0 m0 (v17+1) hl0 (Qe hI0 (condT h3 (condF h4 rfl))) (by refine ⟨?_,?_⟩ <;> omega))))))))) (fun h3 _=>have hD0_5:Qos f words=Lp.done v17:=Qk hI0 (condF h3 rfl); fiB true (F140 f words) (condF h1 (finD hD0_5 rfl)))) (i0.1-1) i0.2 (Ugd f words i0 hi0))))) (by kernel_rfl)
theorem kc139 (word:ByteArray) {K_:Prop} (k_:(∀ k:Nat,((F139 word).getD k default).checks.length≤6)→K_):(True)∧(Imp (.v (.string word)) (.v (.string word)))∧K_:=⟨trivial,Imp.refl _,k_ (g139_0 word)⟩
abbrev kh139 (word:ByteArray):Hint false Tryz.prog:=.call 139 (S139 word) (ok139 word) none
theorem kc140 (f:form) (words:List ByteArray) {K_:Prop} (p0_:f.checks.length≤6) (p1_:∀ k:Nat,(words.getD k default).size≤1048576) (k_:K_):(f.checks.length≤6∧(∀ k:Nat,(words.getD k default).size≤1048576))∧(Imps (Hg f) (Hg f))∧(Imp (.l 1 eStr words) (.l 1 eStr words))∧K_:=⟨⟨p0_,p1_⟩,Imps.refl _,Imp.refl _,k_⟩
abbrev kh140 (f:form) (words:List ByteArray):Hint false Tryz.prog:=.call 140 (S140 f words) (ok140 f words) none
def Jp (words:List ByteArray):Int→Lp Int (form×Bool):=fun v15 =>
 bif (decide (v15<((F139 (words.getD (Int.toNat 0) default)).length:Int))) then (bif (F140 ((F139 (words.getD (Int.toNat 0) default)).getD v15.toNat default) words) then (.ret (((F139 (words.getD (Int.toNat 0) default)).getD v15.toNat default),true)) else (.next (v15+1))) else (.done v15)
def F118 (words:List ByteArray):form×Bool :=
 bif ((words.length:Int)==0) then ((⟨(⟨#[]⟩:ByteArray),0,[]⟩:form),false) else ((runL (Jp words) ((((F139 (words.getD (Int.toNat 0) default)).length:Int)-0).toNat+1) 0).fin (fun r=>r) (fun v15=>((⟨(⟨#[]⟩:ByteArray),0,[]⟩:form),false)))
abbrev Md (words:List ByteArray):Nat×Int:=(((((F139 (words.getD (Int.toNat 0) default)).length:Int)-0).toNat+1),0)
abbrev Qgt (words:List ByteArray) (m39:Nat) (v15:Int):Prop:=Int.toNat (((F139 (words.getD (Int.toNat 0) default)).length:Int)-v15)<m39∧(0:Int)≤v15
abbrev Qrz (words:List ByteArray):Lp Int (form×Bool):=LpX (Jp words) (Md words)
abbrev Ng (words:List ByteArray) (i:Nat×Int):Prop:=LpJ (Jp words) (Md words) i (Qgt words i.1 i.2)
abbrev Qrv (words:List ByteArray) (i:Nat×Int) (m39:Nat) (v15:Int):Prop:=LpH (Jp words) (Md words) i m39 v15 (Qgt words (m39+1) v15)
abbrev Qpn (words:List ByteArray) (v15:Int) (v15_:Int) (K39:Prop):Prop:=(Rf (.int .i64 ((F139 (words.getD (Int.toNat 0) default)).length:Int)))∧((.int .i64 v15:Value)=.int .i64 v15_)∧(Im (.l 1 eStr words))∧(Rf (.string w13_))∧(Rf (.int .i64 0))∧(Rf (.slice none 0 0))∧(Im (.b (.l 3 Hg (F139 (words.getD (Int.toNat 0) default)))))∧K39
theorem Ugs (words:List ByteArray) (i:Nat×Int) (h:Ng words i):Qrv words i (i.1-1) i.2:=⟨hd1 h.1 h.2.1,hd3 h.2.1,hd2 h.2.1,h.2.2⟩
theorem Ufp (words:List ByteArray) (i:Nat×Int) (m39:Nat) (v15:Int) (hl:m39<i.1) (e:runL (Jp words) m39 v15=Qrz words) (h:Qgt words m39 v15):∃ j:Nat×Int,Qpn words v15 j.2 (Ng words j∧j.1<i.1):=⟨(m39,v15),rfl,rfl,Imp.refl _,rfl,rfl,rfl,Imp.refl _,⟨e,h⟩,hl⟩
theorem Uey (words:List ByteArray) (h:(0:Int)≤0):Qpn words 0 0 (Ng words (Md words)):=⟨rfl,rfl,Imp.refl _,rfl,rfl,rfl,Imp.refl _,rfl,Nat.lt_succ_self _,h⟩
def S118 (words:List ByteArray):Spec:=⟨[.r (.c (.l 1 eStr words))],.tu [.ag [.v (.string (F118 words).1.word),.v (vI (F118 words).1.key),.ow .any],.v (.bool (F118 words).2)],(∀ k:Nat,(words.getD k default).size≤1048576)⟩
theorem ok118 (words:List ByteArray):(S118 words).ok Tryz.prog 118 false :=
 Qn mixed (fn:=Tryz.f118) (ct:=.seqk [(0,0)] .no (.seq (.seq .no (.cond (.seq .no .no) .no)) (.seq (.seqk [(0,0),(13,0)] (.reg [(3,kh139 (words.getD (Int.toNat 0) default))]) (.blk (.loop (ι:=Nat×Int) (fun i=>(fun (v15:Int)=>(⟨[(0,some (.h 0 0)),(2,some (.p 1 0)),(13,some (.h 2 0)),(14,some (.v (vI ((F139 (words.getD (Int.toNat 0) default)).length:Int)))),(15,some (.v (vI v15)))],[(0,some (.shr none (.l 1 eStr words))),(1,some (.box 124 [.v (.string w13_),.v (vI 0),.v (.slice none 0 0)])),(2,some (.own 2 (.b (.l 3 Hg (F139 (words.getD (Int.toNat 0) default))))))],3⟩:St)) i.2) (Ng words) (fun i=>i.1) (Md words) (fun i=>(fun (v15:Int)=>(.seq .no (.seq (.cond .no .no) (.seq (.blk (.seq .no (.seq (.reg [(2,kh140 ((F139 (words.getD (Int.toNat 0) default)).getD v15.toNat default) words)]) (.cond (.seq .no .no) .no)))) (.reg [(0,.bnd)]))))) i.2)))) (.seq .no .no)))) Tryz.func118 (fun (hpre0:∀ k:Nat,(words.getD k default).size≤1048576)=>kn words fun _=>ife (words.length:Int) 0 (fun h1 _=>(fun hF:((⟨w13_,0,[]⟩:form),false)=(F118 words)=>ai (congrArg (fun r:form×Bool=>(.string r.1.word:Value)) hF) (ai (congrArg (fun r:form×Bool=>(.int .i64 r.1.key:Value)) hF) (ai (congrArg (fun r:form×Bool=>(.bool r.2:Value)) hF) trivial))) (condT h1 rfl)) (fun h1 _=>ai (by omega:ib 0 words) (kc139 (words.getD (Int.toNat 0) default) (fun gv2=>kn words fun _=>kn (F139 (words.getD (Int.toNat 0) default)) fun _=>ai (Uey words (by omega)) (fun (i0:Nat×Int) (hi0:Ng words i0)=>(fun (m0:Nat) (v15:Int) (hh0:Qrv words i0 m0 v15)=>have hI0:=hh0.1; have hl0:=hh0.2.1; have _:=hh0.2.2.1; have _:=hh0.2.2.2; ifd (v15<((F139 (words.getD (Int.toNat 0) default)).length:Int)) (fun h4 _=>ai (by omega:ib v15 (F139 (words.getD (Int.toNat 0) default))) (kc140 ((F139 (words.getD (Int.toNat 0) default)).getD v15.toNat default) words (by exact gv2 _) (by assumption) (ifb (F140 ((F139 (words.getD (Int.toNat 0) default)).getD v15.toNat default) words) (fun h5=>(fun hF:(((F139 (words.getD (Int.toNat 0) default)).getD v15.toNat default),true)=(F118 words)=>ai (congrArg (fun r:form×Bool=>(.string r.1.word:Value)) hF) (ai (congrArg (fun r:form×Bool=>(.int .i64 r.1.key:Value)) hF) (ai (congrArg (fun r:form×Bool=>(.bool r.2:Value)) hF) trivial))) (condF h1 (finR (Qr hI0 (condT h4 (condT h5 rfl))) rfl))) (fun h5=>ai (iok (v15+1) (by omega)) (Ufp words i0 m0 (v15+1) hl0 (Qe hI0 (condT h4 (condF h5 rfl))) (by refine ⟨?_,?_⟩ <;> omega)))))) (fun h4 _=>have hD0_6:Qrz words=Lp.done v15:=Qk hI0 (condF h4 rfl); (fun hF:((⟨w13_,0,[]⟩:form),false)=(F118 words)=>ai (congrArg (fun r:form×Bool=>(.string r.1.word:Value)) hF) (ai (congrArg (fun r:form×Bool=>(.int .i64 r.1.key:Value)) hF) (ai (congrArg (fun r:form×Bool=>(.bool r.2:Value)) hF) trivial))) (condF h1 (finD hD0_6 rfl)))) (i0.1-1) i0.2 (Ugs words i0 hi0)))))) (by kernel_rfl)
theorem Qeu {α ρ τ:Type} [Inhabited α] (xs:List α) (p:α→Bool) (g:α→ρ) (st:Int→Lp Int ρ) (f:ρ→τ) (k:Int→τ) (y:τ) (hk:∀ i,k i=y)
  (h1:∀ i:Nat,i<xs.length→st (i:Int)=bif p (xs.getD i default) then .ret (g (xs.getD i default)) else .next ((i+1:Nat):Int)) (h2:st (xs.length:Int)=.done (xs.length:Int)) :
  ∀ (m i:Nat),i+m=xs.length→∀ fuel,m<fuel→(runL st fuel (i:Int)).fin f k=match (xs.drop i).find? p with | some a=>f (g a) | none=>y
 | m,i,_,0,hf=>absurd hf (Nat.not_lt_zero _)
 | 0,i,h,fuel+1,hf=>by
  have e:i=xs.length:=by omega
  subst e
  rw [Kv _ h2,List.drop_of_length_le (Nat.le_refl _)]
  exact hk _
 | m+1,i,h,fuel+1,hf=>by
  have hst:=h1 i (by omega)
  have hd:xs.drop i=xs.getD i default :: xs.drop (i+1):=by
   rw [List.drop_eq_getElem_cons (show i<xs.length by omega),List.getD_eq_getElem?_getD,List.getElem?_eq_getElem (show i<xs.length by omega)]; rfl
  rw [hd,List.find?_cons]
  cases hp:p (xs.getD i default) with
  | true=>rw [hp,cond_true] at hst; rw [Zq _ hst]; rfl
  | false =>
   rw [hp,cond_false] at hst
   rw [Yf _ hst,Qeu xs p g st f k y hk h1 h2 m (i+1) (by omega) fuel (by omega)]
def chk:List (ByteArray→Bool)→Nat→List ByteArray→Bool
 | [],_,_=>true
 | c :: cs,i,w=>c (w.getD i default)&&chk cs (i+1) w
theorem Qkh (cs:List (ByteArray→Bool)) (w:List ByteArray):∀ (m i:Nat),i+m=cs.length→anyF (fun k=>!(cs.getD k default) (w.getD (k+1) default)) i m=!chk (cs.drop i) (i+1) w
 | 0,i,h=>by rw [List.drop_of_length_le (by omega)]; rfl
 | m+1,i,h=>by
  have hd:cs.drop i=cs.getD i default :: cs.drop (i+1):=by
   rw [List.drop_eq_getElem_cons (show i<cs.length by omega),List.getD_eq_getElem?_getD,List.getElem?_eq_getElem (show i<cs.length by omega)]; rfl
  rw [hd]
  simp only [anyF,chk,Bool.not_and]
  rw [Qkh cs w m (i+1) (by omega)]
theorem Wr (f:form) (w:List ByteArray):F140 f w=(decide (w.length=f.checks.length+1)&&chk f.checks 1 w):=by
 unfold F140
 by_cases h:w.length=f.checks.length+1
 ·have h1:((w.length:Int) != ((f.checks.length:Int)+1))=false:=by
   rw [bne_eq_false_iff_eq]; omega
  rw [h1,cond_false,decide_eq_true h,Bool.true_and]
  have:=Yk (Jo f w) f.checks.length (fun k=>!(f.checks.getD k default) (w.getD (k+1) default)) false (fun r=>r) true (fun i hi=>by
   simp only [Jo,decide_eq_true (show (i:Int)<(f.checks.length:Int) by omega),cond_true,Int.toNat_natCast]
   rw [show ((i:Int)+1).toNat=i+1 by omega]
   cases (!(f.checks.getD i default) (w.getD (i+1) default)) <;> rfl) (by
   simp only [Jo,decide_eq_false (show ¬ (f.checks.length:Int)<(f.checks.length:Int) by omega),cond_false])
  have h2:=this f.checks.length 0 (by omega) (Int.toNat ((f.checks.length:Int)-0)+1) (by omega)
  rw [Qkh f.checks w f.checks.length 0 (by omega),List.drop_zero] at h2
  refine h2.trans ?_
  cases chk f.checks (0+1) w <;> rfl
 ·have h1:((w.length:Int) != ((f.checks.length:Int)+1))=true:=by
   rw [bne_iff_ne]; omega
  rw [h1,cond_true,decide_eq_false h,Bool.false_and]
theorem Nv (w:List ByteArray) (hw:w.length≠0):F118 w=match (F139 (w.getD 0 default)).find? (fun f=>F140 f w) with | some f=>(f,true) | none=>((⟨(⟨#[]⟩:ByteArray),0,[]⟩:form),false):=by
 unfold F118
 have h1:((w.length:Int)==0)=false:=by rw [beq_eq_false_iff_ne]; omega
 rw [h1,cond_false]
 have h0:w.getD (Int.toNat 0) default=w.getD 0 default:=rfl
 simp only [h0]
 generalize hx:F139 (w.getD 0 default)=xs
 have:=Qeu xs (fun f=>F140 f w) (fun f=>(f,true)) (Jp w) (fun r=>r) (fun _=>((⟨(⟨#[]⟩:ByteArray),0,[]⟩:form),false)) _ (fun _=>rfl) (fun i hi=>by
  simp only [Jp,h0,hx,decide_eq_true (show (i:Int)<(xs.length:Int) by omega),cond_true,Int.toNat_natCast]
  cases F140 (xs.getD i default) w <;> rfl) (by
  simp only [Jp,h0,hx,decide_eq_false (show ¬ (xs.length:Int)<(xs.length:Int) by omega),cond_false]) xs.length 0 (by omega) (Int.toNat ((xs.length:Int)-0)+1) (by omega)
 rw [List.drop_zero] at this
 refine Eq.trans this ?_
 cases xs.find? (fun f=>F140 f w) <;> rfl
theorem Kb (l:List UInt8) (x:ByteArray) (h:x.data.toList=l):F139 x=all139.filter (fun z=>z.word.data.toList==l):=by
 unfold F139
 congr 1
 funext z
 rw [Qz,Qz,h]
def keyN (l:List UInt8):Int :=
 if l=[104,111,115,116] then 1 else if l=[117,115,101,114] then 2 else if l=[112,111,114,116] then 2 else if l=[114,117,108,101] then 3 else if l=[114,111,117,116,101] then 3 else if l=[112,101,101,114] then 2 else if l=[110,97,116] then 1 else 3
theorem Wi (x a:ByteArray):F173 x [a]=(x.toList==a.toList):=by
 unfold F173
 rw [Hu,List.any_cons,List.any_nil,Bool.or_false]
theorem Ka (x a b:ByteArray):F173 x [a,b]=bif (x.toList==a.toList) then true else (x.toList==b.toList):=by
 unfold F173
 rw [Hu,List.any_cons,List.any_cons,List.any_nil,Bool.or_false]
 cases (x.toList==a.toList) <;> rfl
theorem Wh (x:ByteArray) (lo hi:Int):F171 x lo hi=decide (lo≤F32 x∧F32 x≤hi):=by
 unfold F171
 rw [Js]
theorem Kx (w:List ByteArray) (n:Nat):((w.length:Int)==(n:Int))=decide (w.length=n):=by
 by_cases h:w.length=n
 ·rw [decide_eq_true h,beq_iff_eq]; omega
 ·rw [decide_eq_false h,beq_eq_false_iff_ne]; omega
theorem Jd (w:List ByteArray) (f:form) (hw:w.length≠0) (h:F139 (w.getD 0 default)=[f]):(F118 w).2=F140 f w∧((F118 w).2=true→(F118 w).1.key=f.key):=by
 rw [Nv w hw,h,List.find?_cons,List.find?_nil]
 cases F140 f w <;> exact ⟨rfl,fun h=>by first | rfl | cases h⟩
theorem Qva (w:List ByteArray) (f g:form) (hw:w.length≠0) (h:F139 (w.getD 0 default)=[f,g]) (hk:f.key=g.key):(F118 w).2=(F140 f w || F140 g w)∧((F118 w).2=true→(F118 w).1.key=f.key):=by
 rw [Nv w hw,h,List.find?_cons,List.find?_cons,List.find?_nil]
 cases F140 f w <;> cases F140 g w <;> exact ⟨rfl,fun h=>by first | rfl | exact hk.symm | cases h⟩
theorem Qsr (w:List ByteArray) (hw:w.length≠0) (h:F139 (w.getD 0 default)=[]):(F118 w).2=false:=by
 rw [Nv w hw,h]; rfl
theorem blit (x:ByteArray) (a:Array UInt8):(x.toList==(⟨a⟩:ByteArray).toList)=(x.data.toList==a.toList):=by rw [Qz,Qz]
theorem hd00:(([104,111,115,116]:List UInt8)==([104,111,115,116]:List UInt8))=true:=by decide
theorem hd10:(([117,115,101,114]:List UInt8)==([104,111,115,116]:List UInt8))=false:=by decide
theorem hd11:(([117,115,101,114]:List UInt8)==([117,115,101,114]:List UInt8))=true:=by decide
theorem hd20:(([112,111,114,116]:List UInt8)==([104,111,115,116]:List UInt8))=false:=by decide
theorem hd21:(([112,111,114,116]:List UInt8)==([117,115,101,114]:List UInt8))=false:=by decide
theorem hd22:(([112,111,114,116]:List UInt8)==([112,111,114,116]:List UInt8))=true:=by decide
theorem hd30:(([114,117,108,101]:List UInt8)==([104,111,115,116]:List UInt8))=false:=by decide
theorem hd31:(([114,117,108,101]:List UInt8)==([117,115,101,114]:List UInt8))=false:=by decide
theorem hd32:(([114,117,108,101]:List UInt8)==([112,111,114,116]:List UInt8))=false:=by decide
theorem hd33:(([114,117,108,101]:List UInt8)==([114,117,108,101]:List UInt8))=true:=by decide
theorem hd40:(([114,111,117,116,101]:List UInt8)==([104,111,115,116]:List UInt8))=false:=by decide
theorem hd41:(([114,111,117,116,101]:List UInt8)==([117,115,101,114]:List UInt8))=false:=by decide
theorem hd42:(([114,111,117,116,101]:List UInt8)==([112,111,114,116]:List UInt8))=false:=by decide
theorem hd43:(([114,111,117,116,101]:List UInt8)==([114,117,108,101]:List UInt8))=false:=by decide
theorem hd44:(([114,111,117,116,101]:List UInt8)==([114,111,117,116,101]:List UInt8))=true:=by decide
theorem hd50:(([112,101,101,114]:List UInt8)==([104,111,115,116]:List UInt8))=false:=by decide
theorem hd51:(([112,101,101,114]:List UInt8)==([117,115,101,114]:List UInt8))=false:=by decide
theorem hd52:(([112,101,101,114]:List UInt8)==([112,111,114,116]:List UInt8))=false:=by decide
theorem hd53:(([112,101,101,114]:List UInt8)==([114,117,108,101]:List UInt8))=false:=by decide
theorem hd54:(([112,101,101,114]:List UInt8)==([114,111,117,116,101]:List UInt8))=false:=by decide
theorem hd55:(([112,101,101,114]:List UInt8)==([112,101,101,114]:List UInt8))=true:=by decide
theorem hd60:(([110,97,116]:List UInt8)==([104,111,115,116]:List UInt8))=false:=by decide
theorem hd61:(([110,97,116]:List UInt8)==([117,115,101,114]:List UInt8))=false:=by decide
theorem hd62:(([110,97,116]:List UInt8)==([112,111,114,116]:List UInt8))=false:=by decide
theorem hd63:(([110,97,116]:List UInt8)==([114,117,108,101]:List UInt8))=false:=by decide
theorem hd64:(([110,97,116]:List UInt8)==([114,111,117,116,101]:List UInt8))=false:=by decide
theorem hd65:(([110,97,116]:List UInt8)==([112,101,101,114]:List UInt8))=false:=by decide
theorem hd66:(([110,97,116]:List UInt8)==([110,97,116]:List UInt8))=true:=by decide
theorem hd70:(([100,111,111,114]:List UInt8)==([104,111,115,116]:List UInt8))=false:=by decide
theorem hd71:(([100,111,111,114]:List UInt8)==([117,115,101,114]:List UInt8))=false:=by decide
theorem hd72:(([100,111,111,114]:List UInt8)==([112,111,114,116]:List UInt8))=false:=by decide
theorem hd73:(([100,111,111,114]:List UInt8)==([114,117,108,101]:List UInt8))=false:=by decide
theorem hd74:(([100,111,111,114]:List UInt8)==([114,111,117,116,101]:List UInt8))=false:=by decide
theorem hd75:(([100,111,111,114]:List UInt8)==([112,101,101,114]:List UInt8))=false:=by decide
theorem hd76:(([100,111,111,114]:List UInt8)==([110,97,116]:List UInt8))=false:=by decide
theorem hd77:(([100,111,111,114]:List UInt8)==([100,111,111,114]:List UInt8))=true:=by decide
theorem cb1 (a b:Bool):(bif a then b else false)=(a&&b):=by cases a <;> rfl
theorem cb2 (a b:Bool):(bif a then true else b)=(a || b):=by cases a <;> rfl
theorem Qev (w:List ByteArray):(F118 w).2=F136 w∧((F118 w).2=true→(F118 w).1.key=keyN (w.getD 0 default).data.toList):=by
 by_cases hw:w.length=0
 ·obtain rfl:=List.eq_nil_of_length_eq_zero hw
  exact ⟨rfl,fun h=>by cases h⟩
 have h0:((w.length:Int)==0)=false:=by rw [beq_eq_false_iff_ne]; omega
 have t0:∀ k:Nat,w.getD (k:Int).toNat default=w.getD k default:=fun _=>rfl
 have e0:w.getD (Int.toNat 0) default=w.getD 0 default:=rfl
 have e1:w.getD (Int.toNat 1) default=w.getD 1 default:=rfl
 have e2:w.getD (Int.toNat 2) default=w.getD 2 default:=rfl
 have e3:w.getD (Int.toNat 3) default=w.getD 3 default:=rfl
 have e4:w.getD (Int.toNat 4) default=w.getD 4 default:=rfl
 have e5:w.getD (Int.toNat 5) default=w.getD 5 default:=rfl
 have e6:w.getD (Int.toNat 6) default=w.getD 6 default:=rfl
 have n2:=Kx w 2
 have n3:=Kx w 3
 have n4:=Kx w 4
 have n5:=Kx w 5
 have n7:=Kx w 7
 simp only [Int.cast_ofNat_Int] at n2 n3 n4 n5 n7
 have hb:∀ l:List UInt8,(w.getD 0 default).data.toList=l→(w.getD 0 default).toList=l:=fun l h=>by rw [Qz,h]
 have hlit:∀ l:List UInt8,(⟨l.toArray⟩:ByteArray).toList=l:=fun l=>by rw [Qz]
 unfold F136
 simp only [h0,cond_false,e0,e1,e2,e3,e4,e5,e6,n2,n3,n4,n5,n7]
 rcases Classical.em ((w.getD 0 default).data.toList=[104,111,115,116]) with h | hn0
 ·have hF:=(Kb _ _ h).trans (show _=[all139.getD 0 default] from rfl)
  have f0:F140 (all139.getD 0 default) w=(decide (w.length=2)&&(F159 (w.getD 1 default)&&true)):=Wr _ _
  obtain ⟨k1,k2⟩:=Jd w _ hw hF
  refine ⟨?_,fun hh=>(k2 hh).trans (by rw [h]; rfl)⟩
  rw [k1,f0]
  simp only [blit,h,hd00,cond_true,cond_false,Zx,Uy,Ya,Yr,Wh,Wi,Ka,cb1,cb2,Bool.and_true,Bool.and_assoc]
 rcases Classical.em ((w.getD 0 default).data.toList=[117,115,101,114]) with h | hn1
 ·have hF:=(Kb _ _ h).trans (show _=[all139.getD 1 default] from rfl)
  have f0:F140 (all139.getD 1 default) w=(decide (w.length=3)&&(F159 (w.getD 1 default)&&(F160 (w.getD 2 default)&&true))):=Wr _ _
  obtain ⟨k1,k2⟩:=Jd w _ hw hF
  refine ⟨?_,fun hh=>(k2 hh).trans (by rw [h]; rfl)⟩
  rw [k1,f0]
  simp only [blit,h,hd10,hd11,cond_true,cond_false,Zx,Uy,Ya,Yr,Wh,Wi,Ka,cb1,cb2,Bool.and_true,Bool.and_assoc]
 rcases Classical.em ((w.getD 0 default).data.toList=[112,111,114,116]) with h | hn2
 ·have hF:=(Kb _ _ h).trans (show _=[all139.getD 2 default,all139.getD 3 default] from rfl)
  have f0:F140 (all139.getD 2 default) w=(decide (w.length=3)&&(F171 (w.getD 1 default) 0 7&&(F161 (w.getD 2 default)&&true))):=Wr _ _
  have f1:F140 (all139.getD 3 default) w=(decide (w.length=5)&&(F171 (w.getD 1 default) 0 7&&(F161 (w.getD 2 default)&&(F173 (w.getD 3 default) [(⟨#[105,110]⟩:ByteArray)]&&(F159 (w.getD 4 default)&&true))))):=Wr _ _
  obtain ⟨k1,k2⟩:=Qva w _ _ hw hF rfl
  refine ⟨?_,fun hh=>(k2 hh).trans (by rw [h]; rfl)⟩
  rw [k1,f0,f1]
  simp only [blit,h,hd20,hd21,hd22,cond_true,cond_false,Zx,Uy,Ya,Yr,Wh,Wi,Ka,cb1,cb2,Bool.and_true,Bool.and_assoc]
  generalize decide (w.length=3)=a,decide (w.length=5)=b,decide (0≤F32 (w.getD 1 default)∧F32 (w.getD 1 default)≤7)=c,F154 (w.getD 2 default)=d,((w.getD 3 default).data.toList==[105,110])=e,F152 (w.getD 4 default)=g
  cases a <;> cases b <;> cases c <;> cases d <;> cases e <;> cases g <;> rfl
 rcases Classical.em ((w.getD 0 default).data.toList=[114,117,108,101]) with h | hn3
 ·have hF:=(Kb _ _ h).trans (show _=[all139.getD 4 default] from rfl)
  have f0:F140 (all139.getD 4 default) w=(decide (w.length=7)&&(F159 (w.getD 1 default)&&(F171 (w.getD 2 default) 0 99&&(F173 (w.getD 3 default) [(⟨#[112,101,114,109,105,116]⟩:ByteArray),(⟨#[100,101,110,121]⟩:ByteArray)]&&(F161 (w.getD 4 default)&&(F161 (w.getD 5 default)&&(F171 (w.getD 6 default) 0 7&&true))))))):=Wr _ _
  obtain ⟨k1,k2⟩:=Jd w _ hw hF
  refine ⟨?_,fun hh=>(k2 hh).trans (by rw [h]; rfl)⟩
  rw [k1,f0]
  simp only [blit,h,hd30,hd31,hd32,hd33,cond_true,cond_false,Zx,Uy,Ya,Yr,Wh,Wi,Ka,cb1,cb2,Bool.and_true,Bool.and_assoc]
 rcases Classical.em ((w.getD 0 default).data.toList=[114,111,117,116,101]) with h | hn4
 ·have hF:=(Kb _ _ h).trans (show _=[all139.getD 5 default] from rfl)
  have f0:F140 (all139.getD 5 default) w=(decide (w.length=3)&&(F161 (w.getD 1 default)&&(F163 (w.getD 2 default)&&true))):=Wr _ _
  obtain ⟨k1,k2⟩:=Jd w _ hw hF
  refine ⟨?_,fun hh=>(k2 hh).trans (by rw [h]; rfl)⟩
  rw [k1,f0]
  simp only [blit,h,hd40,hd41,hd42,hd43,hd44,cond_true,cond_false,Zx,Uy,Ya,Yr,Wh,Wi,Ka,cb1,cb2,Bool.and_true,Bool.and_assoc]
 rcases Classical.em ((w.getD 0 default).data.toList=[112,101,101,114]) with h | hn5
 ·have hF:=(Kb _ _ h).trans (show _=[all139.getD 6 default] from rfl)
  have f0:F140 (all139.getD 6 default) w=(decide (w.length=4)&&(F163 (w.getD 1 default)&&(F171 (w.getD 2 default) 1 9&&(F171 (w.getD 3 default) 1 999999&&true)))):=Wr _ _
  obtain ⟨k1,k2⟩:=Jd w _ hw hF
  refine ⟨?_,fun hh=>(k2 hh).trans (by rw [h]; rfl)⟩
  rw [k1,f0]
  simp only [blit,h,hd50,hd51,hd52,hd53,hd54,hd55,cond_true,cond_false,Zx,Uy,Ya,Yr,Wh,Wi,Ka,cb1,cb2,Bool.and_true,Bool.and_assoc]
 rcases Classical.em ((w.getD 0 default).data.toList=[110,97,116]) with h | hn6
 ·have hF:=(Kb _ _ h).trans (show _=[all139.getD 7 default] from rfl)
  have f0:F140 (all139.getD 7 default) w=(decide (w.length=5)&&(F161 (w.getD 1 default)&&(F163 (w.getD 2 default)&&(F171 (w.getD 3 default) 1 65535&&(F171 (w.getD 4 default) 1 65535&&true))))):=Wr _ _
  obtain ⟨k1,k2⟩:=Jd w _ hw hF
  refine ⟨?_,fun hh=>(k2 hh).trans (by rw [h]; rfl)⟩
  rw [k1,f0]
  simp only [blit,h,hd60,hd61,hd62,hd63,hd64,hd65,hd66,cond_true,cond_false,Zx,Uy,Ya,Yr,Wh,Wi,Ka,cb1,cb2,Bool.and_true,Bool.and_assoc]
 rcases Classical.em ((w.getD 0 default).data.toList=[100,111,111,114]) with h | hn7
 ·have hF:=(Kb _ _ h).trans (show _=[all139.getD 8 default] from rfl)
  have f0:F140 (all139.getD 8 default) w=(decide (w.length=5)&&(F171 (w.getD 1 default) 1 7&&(F171 (w.getD 2 default) 1 65535&&(F163 (w.getD 3 default)&&(F171 (w.getD 4 default) 1 65535&&true))))):=Wr _ _
  obtain ⟨k1,k2⟩:=Jd w _ hw hF
  refine ⟨?_,fun hh=>(k2 hh).trans (by rw [h]; rfl)⟩
  rw [k1,f0]
  simp only [blit,h,hd70,hd71,hd72,hd73,hd74,hd75,hd76,hd77,cond_true,cond_false,Zx,Uy,Ya,Yr,Wh,Wi,Ka,cb1,cb2,Bool.and_true,Bool.and_assoc]
 have hF:F139 (w.getD 0 default)=[]:=by
  rw [Kb _ _ rfl,List.filter_eq_nil_iff]
  intro z hz
  simp only [all139,List.mem_cons,List.not_mem_nil,or_false] at hz
  rcases hz with rfl | rfl | rfl | rfl | rfl | rfl | rfl | rfl | rfl
  ·exact fun e=>hn0 (eq_of_beq e).symm
  ·exact fun e=>hn1 (eq_of_beq e).symm
  ·exact fun e=>hn2 (eq_of_beq e).symm
  ·exact fun e=>hn2 (eq_of_beq e).symm
  ·exact fun e=>hn3 (eq_of_beq e).symm
  ·exact fun e=>hn4 (eq_of_beq e).symm
  ·exact fun e=>hn5 (eq_of_beq e).symm
  ·exact fun e=>hn6 (eq_of_beq e).symm
  ·exact fun e=>hn7 (eq_of_beq e).symm
 rw [Qsr w hw hF]
 refine ⟨?_,fun h=>by cases h⟩
 simp only [blit,beq_eq_false_iff_ne.2 hn0,beq_eq_false_iff_ne.2 hn1,beq_eq_false_iff_ne.2 hn2,beq_eq_false_iff_ne.2 hn3,beq_eq_false_iff_ne.2 hn4,beq_eq_false_iff_ne.2 hn5,beq_eq_false_iff_ne.2 hn6,beq_eq_false_iff_ne.2 hn7,cond_false]
theorem Qoq (l:List UInt8) (k:Nat):((Vd l).1.getD k default).size≤24:=by
 unfold Vd fitW
 rw [List.getD_eq_getElem?_getD]
 cases h:((l.all okB)&&(decide ((Uf l).length≤8)&&(Uf l).all fun w=>decide (w.length≤24))) with
 | false=>rw [cond_false]; exact Nat.zero_le _
 | true =>
  rw [cond_true]
  simp only [Bool.and_eq_true] at h
  have h2:=List.all_eq_true.1 h.2.2
  show ((((Uf l).map mkB)[k]?).getD default).size≤24
  rw [List.getElem?_map]
  cases hk:(Uf l)[k]? with
  | none=>exact Nat.zero_le _
  | some w=>exact of_decide_eq_true (h2 w (List.mem_of_getElem? hk))
theorem Qmo (line:ByteArray) (k:Nat):((F138 line).1.getD k default).size≤24:=by
 rw [Lf]; exact Qoq _ k
theorem Qia (line:ByteArray):∀ k:Nat,((F138 line).1.getD k default).size≤1048576:=fun k=>Nat.le_trans (Qmo line k) (by decide)
theorem Hh (line:ByteArray):(F42 line).1.length≤8:=by rw [← Hk]; exact Qfx line
theorem Qd (line:ByteArray):∀ k:Nat,((F42 line).1.getD k default).size≤1048576:=by rw [← Hk]; exact Qia line
theorem Mr (sep:List UInt8) (m:Nat):∀ xs:List (List UInt8),(∀ x∈xs,x.length≤m)→(Lib.joinTail sep xs).length≤xs.length*(m+sep.length)
 | [],_=>by simp [Lib.joinTail]
 | x :: xs,h=>by
  have h1:=Mr sep m xs fun y hy=>h y (List.mem_cons_of_mem _ hy)
  have h2:=h x List.mem_cons_self
  have e:Lib.joinTail sep (x :: xs)=(sep++x)++Lib.joinTail sep xs:=rfl
  rw [e]
  simp only [List.length_append,List.length_cons,Nat.succ_mul]
  omega
theorem Uea (ws:List ByteArray) (sep:ByteArray) (m:Nat) (h:∀ k:Nat,(ws.getD k default).size≤m):(Ys ws sep).size≤ws.length*(m+sep.size):=by
 have hx:∀ x∈ws.map (·.data.toList),x.length≤m:=by
  intro x hx
  obtain ⟨w,hw,rfl⟩:=List.mem_map.1 hx
  obtain ⟨k,hk⟩:=List.mem_iff_getElem?.1 hw
  have:=h k
  rw [List.getD_eq_getElem?_getD,hk] at this
  exact this
 have e:(Ys ws sep).size=(Lib.join (ws.map (·.data.toList)) sep.data.toList).length:=by simp [Ys,ByteArray.size]
 have es:sep.data.toList.length=sep.size:=rfl
 rw [e]
 cases ws with
 | nil=>simp [Lib.join]
 | cons a t =>
  rw [List.map_cons,Lib.join_cons,List.length_append,List.length_cons,Nat.succ_mul]
  have h1:=Mr sep.data.toList m (t.map (·.data.toList)) fun y hy=>hx y (by rw [List.map_cons]; exact List.mem_cons_of_mem _ hy)
  have h2:=hx a.data.toList (by rw [List.map_cons]; exact List.mem_cons_self)
  rw [List.length_map,es] at h1
  omega
theorem Hn (ws:List ByteArray) (sep:ByteArray) (h:∀ k:Nat,(ws.getD k default).size≤1048576) (hl:ws.length≤8) (hs:sep.size≤1):(Ys ws sep).size≤140737488355328:=by
 have h1:=Uea ws sep 1048576 h
 have h2:=Nat.mul_le_mul hl (show 1048576+sep.size≤1048577 by omega)
 omega
def F119 (elems:List ByteArray) (sep:ByteArray):ByteArray :=
 Ys elems sep
def S119 (elems:List ByteArray) (sep:ByteArray):Spec:=⟨[.r (.c (.l 1 eStr elems)),.r (.c (.v (.string sep)))],.v (.string (F119 elems sep)),elems.length≤140737488355328∧(Ys elems sep).size≤140737488355328⟩
theorem ok119 (elems:List ByteArray) (sep:ByteArray):(S119 elems sep).ok Tryz.prog 119 false :=
 Uer Ufa Uak elems sep
theorem kc138 (line:ByteArray) {K_:Prop} (p0_:line.size≤1048576) (k_:((F138 line).1.length≤8)→(∀ k:Nat,((F138 line).1.getD k default).size≤1048576)→K_):(line.size≤1048576)∧(Imp (.v (.string line)) (.v (.string line)))∧K_:=⟨p0_,Imp.refl _,k_ (Qfx line) (Qia line)⟩
abbrev kh138 (line:ByteArray):Hint false Tryz.prog:=.call 138 (S138 line) (ok138 line) none
theorem kc118 (words:List ByteArray) {K_:Prop} (p0_:∀ k:Nat,(words.getD k default).size≤1048576) (k_:K_):(∀ k:Nat,(words.getD k default).size≤1048576)∧(Imp (.l 1 eStr words) (.l 1 eStr words))∧K_:=⟨p0_,Imp.refl _,k_⟩
abbrev kh118 (words:List ByteArray):Hint false Tryz.prog:=.call 118 (S118 words) (ok118 words) none
theorem kc119 (elems:List ByteArray) (sep:ByteArray) {K_:Prop} (p0_:elems.length≤140737488355328) (p1_:(Ys elems sep).size≤140737488355328) (k_:K_):(elems.length≤140737488355328∧(Ys elems sep).size≤140737488355328)∧(Imp (.l 1 eStr elems) (.l 1 eStr elems))∧(Imp (.v (.string sep)) (.v (.string sep)))∧K_:=⟨⟨p0_,p1_⟩,Imp.refl _,Imp.refl _,k_⟩
abbrev kh119 (elems:List ByteArray) (sep:ByteArray):Hint false Tryz.prog:=.call 119 (S119 elems sep) (ok119 elems sep) none
def F117 (line:ByteArray):ByteArray×Bool :=
 bif (!(F138 line).2) then ((⟨#[]⟩:ByteArray),false) else (bif (!(F118 (F138 line).1).2) then ((⟨#[]⟩:ByteArray),false) else ((F119 (F138 line).1 ⟨#[32]⟩),true))
theorem Qwb (line:ByteArray) (r:ByteArray×Bool) (hF:r=(F117 line)):((.string r.1:Value)=.string (F117 line).1)∧((.bool r.2:Value)=.bool (F117 line).2)∧True:=by cases hF; exact ⟨rfl,rfl,trivial⟩
def S117 (line:ByteArray):Spec:=⟨[.r (.c (.v (.string line)))],.tu [.v (.string (F117 line).1),.v (.bool (F117 line).2)],line.size≤1048576⟩
theorem ok117 (line:ByteArray):(S117 line).ok Tryz.prog 117 false :=
 Qn mixed (fn:=Tryz.f117) (ct:=.seq .no (.seq (.reg [(1,kh138 line)]) (.seq (.seq .no (.cond (.seq .no .no) .no)) (.seq (.seq (.reg [(1,kh118 (F138 line).1)]) (.seq .no (.cond (.seq .no .no) .no))) (.seq (.reg [(1,kh119 (F138 line).1 w15_)]) .no))))) Tryz.func117 (fun (hpre0:line.size≤1048576)=>kc138 line (by omega) (fun gv1 gv2=>ifb (!(F138 line).2) (fun h3=>have _:=(Wb h3); Qwb line (w13_,false) (condT h3 rfl)) (fun h3=>have _:=(Yl h3); kc118 (F138 line).1 (by first | assumption | exact gv2 | (intros; exact trivial) | (intros; exact Nat.zero_le _)) (ifb (!(F118 (F138 line).1).2) (fun h4=>have _:=(Wb h4); Qwb line (w13_,false) (condF h3 (condT h4 rfl))) (fun h4=>have _:=(Yl h4); kc119 (F138 line).1 w15_ (by first | omega | exact Hn _ _ (by assumption) (by omega) (by decide)) (by first | omega | exact Hn _ _ (by assumption) (by omega) (by decide)) (Qwb line ((F119 (F138 line).1 w15_),true) (condF h3 (condF h4 rfl)))))))) (by kernel_rfl)
theorem kc42 (line:ByteArray) {K_:Prop} (p0_:line.size≤1048576) (k_:((F42 line).1.length≤8)→(∀ k:Nat,((F42 line).1.getD k default).size≤1048576)→K_):(line.size≤1048576)∧(Imp (.v (.string line)) (.v (.string line)))∧K_:=⟨p0_,Imp.refl _,k_ (Hh line) (Qd line)⟩
abbrev kh42 (line:ByteArray):Hint true Tryz.prog:=.call 42 (S42 line) (ok42 line) none
theorem kg136 {K_:Prop} (c_ b_:Bool) (w1:List ByteArray) (p_:c_=b_→(∀ k:Nat,(w1.getD k default).size≤1048576)) (k_:K_):(c_=b_→(∀ k:Nat,(w1.getD k default).size≤1048576))∧(c_=b_→Imp (.l 1 eStr w1) (.l 1 eStr w1))∧K_:=⟨p_,fun _=>Imp.refl _,k_⟩
abbrev kh136 (w1:List ByteArray):Hint true Tryz.prog:=.call 136 (S136 w1) (ok136 w1) none
theorem kc137 (list:List ByteArray) (with':ByteArray) {K_:Prop} (p0_:list.length≤8) (p1_:∀ k:Nat,(list.getD k default).size≤1048576) (p2_:with'.size≤1) (k_:K_):(list.length≤8∧(∀ k:Nat,(list.getD k default).size≤1048576)∧with'.size≤1)∧(Imp (.l 1 eStr list) (.l 1 eStr list))∧(Imp (.v (.string with')) (.v (.string with')))∧K_:=⟨⟨p0_,p1_,p2_⟩,Imp.refl _,Imp.refl _,k_⟩
abbrev kh137 (list:List ByteArray) (with':ByteArray):Hint true Tryz.prog:=.call 137 (S137 list with') (ok137 list with') none
def F115 (line:ByteArray):ByteArray×Bool :=
 bif (bif (!(F42 line).2) then true else (!(F136 (F42 line).1))) then ((⟨#[]⟩:ByteArray),false) else ((F137 (F42 line).1 ⟨#[32]⟩),true)
theorem fi115 (line:ByteArray) (r:ByteArray×Bool) (hF:r=(F115 line)):((.string r.1:Value)=.string (F115 line).1)∧((.bool r.2:Value)=.bool (F115 line).2)∧True:=by cases hF; exact ⟨rfl,rfl,trivial⟩
def S115 (line:ByteArray):Spec:=⟨[.r (.c (.v (.string line)))],.tu [.v (.string (F115 line).1),.v (.bool (F115 line).2)],line.size≤1048576⟩
theorem ok115 (line:ByteArray):(S115 line).ok Tryz.prog 115 :=
 Qn mixed (fn:=Tryz.f115) (ct:=.seq .no (.seq (.reg [(1,kh42 line)]) (.seq (.seq (.reg [(4,kh136 (F42 line).1)]) (.cond (.seq .no .no) .no)) (.seq (.reg [(1,kh137 (F42 line).1 w15_)]) .no)))) Tryz.func115 (fun (hpre0:line.size≤1048576)=>kc42 line (by omega) (fun gv1 gv2=>kg136 (!(F42 line).2) false (F42 line).1 (fun k3=>have _:=(Yl k3); (by first | assumption | exact gv2 | (intros; exact trivial) | (intros; exact Nat.zero_le _))) (ifb (bif (!(F42 line).2) then true else (!(F136 (F42 line).1))) (fun h4=>fi115 line (w13_,false) (condT h4 rfl)) (fun h4=>have _:=(Yl (orF1 h4)); kc137 (F42 line).1 w15_ (by first | assumption | omega | decide) (by first | assumption | omega | decide) (by first | assumption | omega | decide) (fi115 line ((F137 (F42 line).1 w15_),true) (condF h4 rfl)))))) (by kernel_rfl)
theorem Qta (line:ByteArray):F117 line=F115 line:=by
 unfold F117 F115
 rw [Hk,(Qev _).1,Pu]
 cases (F42 line).2 <;> cases F136 (F42 line).1 <;> rfl
def Qem (w:List ByteArray):Prop:=(w.getD 0 default).data.toList=[104,111,115,116]∧w.length=2∧F152 (w.getD 1 default)=true
def Wq (w:List ByteArray):Prop:=(w.getD 0 default).data.toList=[117,115,101,114]∧w.length=3∧F152 (w.getD 1 default)=true∧F153 (w.getD 2 default)=true
def Jk (w:List ByteArray):Prop:=(w.getD 0 default).data.toList=[112,111,114,116]∧(w.length=3∨w.length=5∧(w.getD 3 default).data.toList=[105,110]∧F152 (w.getD 4 default)=true)∧0≤F32 (w.getD 1 default)∧F32 (w.getD 1 default)≤7∧F154 (w.getD 2 default)=true
def Wd (w:List ByteArray):Prop:=(w.getD 0 default).data.toList=[114,117,108,101]∧w.length=7∧F152 (w.getD 1 default)=true∧0≤F32 (w.getD 2 default)∧F32 (w.getD 2 default)≤99∧((w.getD 3 default).data.toList=[112,101,114,109,105,116]∨(w.getD 3 default).data.toList=[100,101,110,121])∧F154 (w.getD 4 default)=true∧F154 (w.getD 5 default)=true∧0≤F32 (w.getD 6 default)∧F32 (w.getD 6 default)≤7
def Vg (w:List ByteArray):Prop:=(w.getD 0 default).data.toList=[114,111,117,116,101]∧w.length=3∧F154 (w.getD 1 default)=true∧F30 (w.getD 2 default)≥0
def Wc (w:List ByteArray):Prop:=(w.getD 0 default).data.toList=[112,101,101,114]∧w.length=4∧F30 (w.getD 1 default)≥0∧1≤F32 (w.getD 2 default)∧F32 (w.getD 2 default)≤9∧1≤F32 (w.getD 3 default)∧F32 (w.getD 3 default)≤999999
def natP (w:List ByteArray):Prop:=(w.getD 0 default).data.toList=[110,97,116]∧w.length=5∧F154 (w.getD 1 default)=true∧F30 (w.getD 2 default)≥0∧1≤F32 (w.getD 3 default)∧F32 (w.getD 3 default)≤65535∧1≤F32 (w.getD 4 default)∧F32 (w.getD 4 default)≤65535
def Ug (w:List ByteArray):Prop:=(w.getD 0 default).data.toList=[100,111,111,114]∧w.length=5∧1≤F32 (w.getD 1 default)∧F32 (w.getD 1 default)≤7∧1≤F32 (w.getD 2 default)∧F32 (w.getD 2 default)≤65535∧F30 (w.getD 3 default)≥0∧1≤F32 (w.getD 4 default)∧F32 (w.getD 4 default)≤65535
def Wo (w:List ByteArray):Prop:=Qem w∨Wq w∨Jk w∨Wd w∨Vg w∨Wc w∨natP w∨Ug w
theorem Qmv (w:List ByteArray) (hF:F136 w=true):Wo w:=by
 have hw:w.length≠0:=fun h=>by
  obtain rfl:=List.eq_nil_of_length_eq_zero h
  exact Bool.false_ne_true hF
 have h0:((w.length:Int)==0)=false:=by rw [beq_eq_false_iff_ne]; omega
 have e0:w.getD (Int.toNat 0) default=w.getD 0 default:=rfl
 have e1:w.getD (Int.toNat 1) default=w.getD 1 default:=rfl
 have e2:w.getD (Int.toNat 2) default=w.getD 2 default:=rfl
 have e3:w.getD (Int.toNat 3) default=w.getD 3 default:=rfl
 have e4:w.getD (Int.toNat 4) default=w.getD 4 default:=rfl
 have e5:w.getD (Int.toNat 5) default=w.getD 5 default:=rfl
 have e6:w.getD (Int.toNat 6) default=w.getD 6 default:=rfl
 have n2:=Kx w 2
 have n3:=Kx w 3
 have n4:=Kx w 4
 have n5:=Kx w 5
 have n7:=Kx w 7
 simp only [Int.cast_ofNat_Int] at n2 n3 n4 n5 n7
 unfold F136 at hF
 simp only [h0,cond_false,e0,e1,e2,e3,e4,e5,e6,n2,n3,n4,n5,n7] at hF
 rcases Classical.em ((w.getD 0 default).data.toList=[104,111,115,116]) with h | hn0
 ·simp only [blit,h,hd00,cond_true,cond_false,cb1,cb2,Bool.and_eq_true,Bool.or_eq_true,decide_eq_true_eq,beq_iff_eq,and_assoc] at hF
  exact Or.inl ⟨h,hF⟩
 rcases Classical.em ((w.getD 0 default).data.toList=[117,115,101,114]) with h | hn1
 ·simp only [blit,h,hd10,hd11,cond_true,cond_false,cb1,cb2,Bool.and_eq_true,Bool.or_eq_true,decide_eq_true_eq,beq_iff_eq,and_assoc] at hF
  exact Or.inr (Or.inl ⟨h,hF⟩)
 rcases Classical.em ((w.getD 0 default).data.toList=[112,111,114,116]) with h | hn2
 ·simp only [blit,h,hd20,hd21,hd22,cond_true,cond_false,cb1,cb2,Bool.and_eq_true,Bool.or_eq_true,decide_eq_true_eq,beq_iff_eq,and_assoc] at hF
  exact Or.inr (Or.inr (Or.inl ⟨h,hF⟩))
 rcases Classical.em ((w.getD 0 default).data.toList=[114,117,108,101]) with h | hn3
 ·simp only [blit,h,hd30,hd31,hd32,hd33,cond_true,cond_false,cb1,cb2,Bool.and_eq_true,Bool.or_eq_true,decide_eq_true_eq,beq_iff_eq,and_assoc] at hF
  exact Or.inr (Or.inr (Or.inr (Or.inl ⟨h,hF⟩)))
 rcases Classical.em ((w.getD 0 default).data.toList=[114,111,117,116,101]) with h | hn4
 ·simp only [blit,h,hd40,hd41,hd42,hd43,hd44,cond_true,cond_false,cb1,cb2,Bool.and_eq_true,Bool.or_eq_true,decide_eq_true_eq,beq_iff_eq,and_assoc] at hF
  exact Or.inr (Or.inr (Or.inr (Or.inr (Or.inl ⟨h,hF⟩))))
 rcases Classical.em ((w.getD 0 default).data.toList=[112,101,101,114]) with h | hn5
 ·simp only [blit,h,hd50,hd51,hd52,hd53,hd54,hd55,cond_true,cond_false,cb1,cb2,Bool.and_eq_true,Bool.or_eq_true,decide_eq_true_eq,beq_iff_eq,and_assoc] at hF
  exact Or.inr (Or.inr (Or.inr (Or.inr (Or.inr (Or.inl ⟨h,hF⟩)))))
 rcases Classical.em ((w.getD 0 default).data.toList=[110,97,116]) with h | hn6
 ·simp only [blit,h,hd60,hd61,hd62,hd63,hd64,hd65,hd66,cond_true,cond_false,cb1,cb2,Bool.and_eq_true,Bool.or_eq_true,decide_eq_true_eq,beq_iff_eq,and_assoc] at hF
  exact Or.inr (Or.inr (Or.inr (Or.inr (Or.inr (Or.inr (Or.inl ⟨h,hF⟩))))))
 rcases Classical.em ((w.getD 0 default).data.toList=[100,111,111,114]) with h | hn7
 ·simp only [blit,h,hd70,hd71,hd72,hd73,hd74,hd75,hd76,hd77,cond_true,cond_false,cb1,cb2,Bool.and_eq_true,Bool.or_eq_true,decide_eq_true_eq,beq_iff_eq,and_assoc] at hF
  exact Or.inr (Or.inr (Or.inr (Or.inr (Or.inr (Or.inr (Or.inr (⟨h,hF⟩)))))))
 exfalso
 simp only [blit,beq_eq_false_iff_ne.2 hn0,beq_eq_false_iff_ne.2 hn1,beq_eq_false_iff_ne.2 hn2,beq_eq_false_iff_ne.2 hn3,beq_eq_false_iff_ne.2 hn4,beq_eq_false_iff_ne.2 hn5,beq_eq_false_iff_ne.2 hn6,beq_eq_false_iff_ne.2 hn7,cond_false] at hF
 exact Bool.false_ne_true hF
theorem Gd (w:List ByteArray) (h:Wo w):2≤w.length∧w.length≤7:=by
 unfold Wo Qem Wq Jk Wd Vg Wc natP Ug at h
 omega
theorem Pw (w:List ByteArray) (h:Wo w):1≤keyN (w.getD 0 default).data.toList∧keyN (w.getD 0 default).data.toList≤3∧keyN (w.getD 0 default).data.toList≤(w.length:Int):=by
 rcases h with h | h | h | h | h | h | h | h
 ·have hk:keyN (w.getD 0 default).data.toList=1:=by rw [h.1]; decide
  unfold Qem at h
  omega
 ·have hk:keyN (w.getD 0 default).data.toList=2:=by rw [h.1]; decide
  unfold Wq at h
  omega
 ·have hk:keyN (w.getD 0 default).data.toList=2:=by rw [h.1]; decide
  unfold Jk at h
  omega
 ·have hk:keyN (w.getD 0 default).data.toList=3:=by rw [h.1]; decide
  unfold Wd at h
  omega
 ·have hk:keyN (w.getD 0 default).data.toList=3:=by rw [h.1]; decide
  unfold Vg at h
  omega
 ·have hk:keyN (w.getD 0 default).data.toList=2:=by rw [h.1]; decide
  unfold Wc at h
  omega
 ·have hk:keyN (w.getD 0 default).data.toList=1:=by rw [h.1]; decide
  unfold natP at h
  omega
 ·have hk:keyN (w.getD 0 default).data.toList=3:=by rw [h.1]; decide
  unfold Ug at h
  omega
theorem Qfb (c:UInt8):∀ (l:List UInt8),∀ w∈Qx c l,c ∉ w
 | [],w,h=>by rw [Qx,List.mem_singleton] at h; rw [h]; exact List.not_mem_nil
 | b :: l,w,h=>by
  have ih:=Qfb c l
  rw [Qx] at h
  by_cases hb:b=c
  ·rw [if_pos hb] at h
   rcases List.mem_cons.1 h with rfl | h
   ·exact List.not_mem_nil
   ·exact ih w h
  ·rw [if_neg hb] at h
   have hbc:¬ c=b:=fun e=>hb e.symm
   cases hs:Qx c l with
   | nil =>
    rw [hs] at h
    rw [List.mem_singleton] at h; rw [h]
    intro hm; rcases List.mem_cons.1 hm with e | e
    ·exact hbc e
    ·cases e
   | cons p ps =>
    rw [hs] at h ih
    rcases List.mem_cons.1 h with rfl | h
    ·intro hm; rcases List.mem_cons.1 hm with e | e
     ·exact hbc e
     ·exact ih p List.mem_cons_self e
    ·exact ih w (List.mem_cons_of_mem _ h)
theorem Qci (c:UInt8):∀ (ws:List (List UInt8)),ws≠[]→(∀ w∈ws,c ∉ w)→Qx c (Lib.join ws [c])=ws
 | [],h,_=>absurd rfl h
 | [x],_,h=>by rw [Lib.join_one,Yb (h x List.mem_cons_self)]
 | x :: y :: r,_,h=>by
  have ih:=Qci c (y :: r) (by simp) fun w hw=>h w (List.mem_cons_of_mem _ hw)
  rw [Lib.join_cons]
  have e:Lib.joinTail [c] (y :: r)=c :: Lib.join (y :: r) [c]:=by rw [Lib.join_cons]; rfl
  rw [e,Yo _ (h x List.mem_cons_self),ih]
theorem Qpt (line:ByteArray):∀ w∈(F42 line).1,(32:UInt8) ∉ w.data.toList∧w.data.toList≠[]∧w.size≤24:=by
 rw [Qbl]
 unfold Vd fitW
 cases h:(((cut3 line (⟨#[35]⟩:ByteArray)).1.data.toList.all okB)&&(decide ((Uf (cut3 line (⟨#[35]⟩:ByteArray)).1.data.toList).length≤8)&&(Uf (cut3 line (⟨#[35]⟩:ByteArray)).1.data.toList).all fun w=>decide (w.length≤24))) with
 | false=>intro w hw; rw [cond_false] at hw; cases hw
 | true =>
  rw [cond_true]
  simp only [Bool.and_eq_true] at h
  intro w hw
  obtain ⟨l,hl,rfl⟩:=List.mem_map.1 hw
  have h1:=of_decide_eq_true (List.all_eq_true.1 h.2.2 l hl)
  have h2:=List.mem_filter.1 hl
  refine ⟨Qfb 32 _ l h2.1,?_,h1⟩
  intro e
  have e':l=[]:=e
  rw [e'] at h2
  exact Bool.false_ne_true h2.2
structure Udb (line:ByteArray) (w:List ByteArray):Prop where
 words:F42 line=(w,true)
 form:Wo w
 joins:Ys w (⟨#[32]⟩:ByteArray)=line
 splits:Qw line (⟨#[32]⟩:ByteArray)=w
 no:∀ x∈w,(32:UInt8) ∉ x.data.toList∧x.data.toList≠[]∧x.size≤24
theorem Qks (w:List ByteArray) (h0:w≠[]) (h:∀ x∈w,(32:UInt8) ∉ x.data.toList):Qw (Ys w (⟨#[32]⟩:ByteArray)) (⟨#[32]⟩:ByteArray)=w:=by
 rw [Pd]
 have e:(Ys w (⟨#[32]⟩:ByteArray)).data.toList=Lib.join (w.map (·.data.toList)) [32]:=rfl
 rw [e,Qci 32 _ (by simpa using h0) (fun x hx=>by obtain ⟨y,hy,rfl⟩:=List.mem_map.1 hx; exact h y hy),List.map_map]
 exact (List.map_congr_left fun x _=>Qai x).trans (List.map_id _)
theorem Pt (line:ByteArray):F115 line=bif (F42 line).2&&F136 (F42 line).1 then (Ys (F42 line).1 (⟨#[32]⟩:ByteArray),true) else ((⟨#[]⟩:ByteArray),false):=by
 unfold F115
 rw [Pu]
 cases (F42 line).2 <;> cases F136 (F42 line).1 <;> rfl
theorem Qgp (a b:ByteArray):(a.toList==b.toList)=decide (a=b):=by
 rw [Qz,Qz]
 by_cases h:a=b
 ·rw [h,decide_eq_true rfl]; simp
 ·rw [decide_eq_false h,beq_eq_false_iff_ne]; exact fun e=>h (Jj e)
theorem Ufn (line:ByteArray) (h:(F115 line).2=true∧(F115 line).1=line):Udb line (F42 line).1:=by
 rw [Pt] at h
 cases hc:((F42 line).2&&F136 (F42 line).1) with
 | false=>rw [hc,cond_false] at h; exact absurd h.1 Bool.false_ne_true
 | true =>
  rw [hc,cond_true] at h
  simp only [Bool.and_eq_true] at hc
  have hf:=Qmv _ hc.2
  have hn:=Qpt line
  refine ⟨Prod.ext rfl hc.1,hf,h.2,?_,hn⟩
  have hne:(F42 line).1≠[]:=fun e=>by have:=(Gd _ hf).1; rw [e] at this; simp at this
  have:=Qks _ hne fun x hx=>(hn x hx).1
  have e:Ys (F42 line).1 (⟨#[32]⟩:ByteArray)=line:=h.2
  rwa [e] at this
theorem kc117 (line:ByteArray) {K_:Prop} (p0_:line.size≤1048576) (k_:K_):(line.size≤1048576)∧(Imp (.v (.string line)) (.v (.string line)))∧K_:=⟨p0_,Imp.refl _,k_⟩
abbrev kh117 (line:ByteArray):Hint false Tryz.prog:=.call 117 (S117 line) (ok117 line) none
def F88 (line:ByteArray):Bool :=
 (bif (F117 line).2 then ((F117 line).1.toList==line.toList) else false)
def S88 (line:ByteArray):Spec:=⟨[.r (.c (.v (.string line)))],.v (.bool (F88 line)),line.size≤1048576⟩
theorem ok88 (line:ByteArray):(S88 line).ok Tryz.prog 88 false :=
 Qn mixed (fn:=Tryz.f88) (ct:=.seq .no (.seq (.reg [(1,kh117 line)]) (.seq .no .no))) Tryz.func88 (fun (hpre0:line.size≤1048576)=>kc117 line (by omega) (fiB (bif (F117 line).2 then ((F117 line).1.toList==line.toList) else false) (F88 line) rfl)) (by kernel_rfl)
theorem kc115 (line:ByteArray) {K_:Prop} (p0_:line.size≤1048576) (k_:K_):(line.size≤1048576)∧(Imp (.v (.string line)) (.v (.string line)))∧K_:=⟨p0_,Imp.refl _,k_⟩
abbrev kh115 (line:ByteArray):Hint true Tryz.prog:=.call 115 (S115 line) (ok115 line) none
def F85 (line:ByteArray):Bool :=
 (bif (F115 line).2 then ((F115 line).1.toList==line.toList) else false)
def S85 (line:ByteArray):Spec:=⟨[.r (.c (.v (.string line)))],.v (.bool (F85 line)),line.size≤1048576⟩
theorem ok85 (line:ByteArray):(S85 line).ok Tryz.prog 85 :=
 Qn mixed (fn:=Tryz.f85) (ct:=.seq .no (.seq (.reg [(1,kh115 line)]) (.seq .no .no))) Tryz.func85 (fun (hpre0:line.size≤1048576)=>kc115 line (by omega) (fiB (bif (F115 line).2 then ((F115 line).1.toList==line.toList) else false) (F85 line) rfl)) (by kernel_rfl)
theorem Vt (line:ByteArray):F88 line=F85 line:=by
 unfold F88 F85
 rw [Qta]
theorem Qkj (line:ByteArray):F85 line=true↔(F115 line).2=true∧(F115 line).1=line:=by
 unfold F85
 rw [cb1,Qgp,Bool.and_eq_true,decide_eq_true_eq]
theorem Hj (line:ByteArray) (h:F85 line=true):Udb line (F42 line).1:=Ufn line ((Qkj line).1 h)
theorem not_false {b:Bool} (h:(!b)=false):b=true:=by cases b; exact h.symm; rfl
theorem kix_n (line:ByteArray) (hk:(!F85 line)=false):(2:Int)≤((F42 line).1.length:Int):=by
 have:=(Gd _ (Hj line (not_false hk)).form).1; omega
theorem kix0 (line:ByteArray) (hk:(!F85 line)=false):(0:Int)≤0∧(0:Int)<((F42 line).1.length:Int):=by have:=kix_n line hk; omega
theorem kix1 (line:ByteArray) (hk:(!F85 line)=false):(0:Int)≤1∧(1:Int)<((F42 line).1.length:Int):=by have:=kix_n line hk; omega
theorem Vq (line:ByteArray) (hk:(!F85 line)=false) (h:(((F42 line).1.getD (Int.toNat 0) default).toList==(⟨#[114,117,108,101]⟩:ByteArray).toList)=true):(0:Int)≤2∧(2:Int)<((F42 line).1.length:Int):=by
 have hf:=(Hj line (not_false hk)).form
 rw [blit,beq_iff_eq] at h
 have h:((F42 line).1.getD 0 default).data.toList=[114,117,108,101]:=h
 unfold Wo Qem Wq Jk Wd Vg Wc natP Ug at hf
 simp only [h] at hf
 simp at hf
 omega
theorem Vs (line:ByteArray) (hk:(!F85 line)=false) (h:(((F42 line).1.getD (Int.toNat 0) default).toList==(⟨#[100,111,111,114]⟩:ByteArray).toList)=true):(0:Int)≤2∧(2:Int)<((F42 line).1.length:Int):=by
 have hf:=(Hj line (not_false hk)).form
 rw [blit,beq_iff_eq] at h
 have h:((F42 line).1.getD 0 default).data.toList=[100,111,111,114]:=h
 unfold Wo Qem Wq Jk Wd Vg Wc natP Ug at hf
 simp only [h] at hf
 simp at hf
 omega
theorem Qsv (line:ByteArray) (h:F85 line=true):F136 (F42 line).1=true:=by
 have:=((Qkj line).1 h).1
 rw [Pt] at this
 cases hc:F136 (F42 line).1 with
 | true=>rfl
 | false=>rw [hc,Bool.and_false,cond_false] at this; exact this
theorem Pf (line:ByteArray) (h:F85 line=true):(F118 (F52 line (⟨#[32]⟩:ByteArray))).1.key=keyN (((F42 line).1.getD 0 default).data.toList)∧F52 line (⟨#[32]⟩:ByteArray)=(F42 line).1:=by
 have hk:=Hj line h
 have e:F52 line (⟨#[32]⟩:ByteArray)=(F42 line).1:=hk.splits
 rw [e]
 obtain ⟨f1,f2⟩:=Qev (F42 line).1
 exact ⟨f2 (f1.trans (Qsv line h)),rfl⟩
theorem Ucx (line:ByteArray) (h:F88 line=true):0≤((F118 (F52 line (⟨#[32]⟩:ByteArray))).1).key∧((F118 (F52 line (⟨#[32]⟩:ByteArray))).1).key≤((F52 line (⟨#[32]⟩:ByteArray)).length:Int):=by
 rw [Vt] at h
 obtain ⟨k1,k2⟩:=Pf line h
 have:=Pw _ (Hj line h).form
 rw [k1,k2]
 omega
theorem Uaq (line:ByteArray) (h:line.size≤1048576):∀ k:Nat,((F52 line (⟨#[32]⟩:ByteArray)).getD k default).size≤1048576:=fun k=>by
 show ((Qw line (⟨#[32]⟩:ByteArray)).getD k default).size≤1048576
 rw [Pd]
 refine Th _ _ (fun w hw=>?_) k
 have:=Pk 32 _ w hw
 have hl:line.data.toList.length=line.size:=Array.length_toList
 omega
theorem Qtu (ws:List ByteArray) (n m:Nat) (h:∀ k:Nat,(ws.getD k default).size≤m) (k:Nat):((ws.take n).getD k default).size≤m:=by
 rw [List.getD_eq_getElem?_getD,List.getElem?_take]
 by_cases hk:k<n
 ·rw [if_pos hk,← List.getD_eq_getElem?_getD]; exact h k
 ·rw [if_neg hk]; exact Nat.zero_le _
theorem Qfd (line:ByteArray) (hk:(!F88 line)=false) :
  ((F52 line (⟨#[32]⟩:ByteArray)).take (Int.toNat (((F118 (F52 line (⟨#[32]⟩:ByteArray))).1).key))).length≤140737488355328 ∧
  (Ys ((F52 line (⟨#[32]⟩:ByteArray)).take (Int.toNat (((F118 (F52 line (⟨#[32]⟩:ByteArray))).1).key))) (⟨#[32]⟩:ByteArray)).size≤140737488355328:=by
 have h:=not_false hk
 rw [Vt] at h
 obtain ⟨k1,k2⟩:=Pf line h
 rw [k2]
 have hl:(((F42 line).1).take (Int.toNat (((F118 ((F42 line).1)).1).key))).length≤8:=by
  rw [List.length_take]
  have:=Hh line
  omega
 exact ⟨Nat.le_trans hl (by decide),Hn _ _ (Qtu _ _ _ (Qd line)) hl (by decide)⟩
theorem kc88 (line:ByteArray) {K_:Prop} (p0_:line.size≤1048576) (k_:K_):(line.size≤1048576)∧(Imp (.v (.string line)) (.v (.string line)))∧K_:=⟨p0_,Imp.refl _,k_⟩
abbrev kh88 (line:ByteArray):Hint false Tryz.prog:=.call 88 (S88 line) (ok88 line) none
def F89 (line:ByteArray):ByteArray :=
 bif (!(F88 line)) then (⟨#[]⟩:ByteArray) else (F119 ((F52 line ⟨#[32]⟩).take (Int.toNat (F118 (F52 line ⟨#[32]⟩)).1.key)) ⟨#[32]⟩)
def S89 (line:ByteArray):Spec:=⟨[.r (.c (.v (.string line)))],.v (.string (F89 line)),line.size≤1048576⟩
theorem ok89 (line:ByteArray):(S89 line).ok Tryz.prog 89 false :=
 Qn mixed (fn:=Tryz.f89) (ct:=.seq .no (.seq (.seq (.reg [(1,kh88 line)]) (.cond (.seq .no .no) .no)) (.seq (.reg [(1,kh52f line w15_)]) (.seq (.reg [(1,kh118 (F52 line w15_))]) (.seq (.reg [(4,kh119 ((F52 line w15_).take (Int.toNat (F118 (F52 line w15_)).1.key)) w15_)]) .no))))) Tryz.func89 (fun (hpre0:line.size≤1048576)=>kc88 line (by omega) (ifb (!(F88 line)) (fun h1=>fiS w13_ (F89 line) (condT h1 rfl)) (fun h1=>have _:0≤(F118 (F52 line w15_)).1.key∧(F118 (F52 line w15_)).1.key≤((F52 line w15_).length:Int):=Ucx line (Yl h1); kc52 line w15_ (by omega) (by decide) (by decide) (by decide) (fun gv2 gv3=>kc118 (F52 line w15_) (by exact Uaq line (by omega)) (ai (by omega:0≤(0:Int)∧(0:Int)≤(F118 (F52 line w15_)).1.key∧(F118 (F52 line w15_)).1.key≤((F52 line w15_).length:Int)) (kc119 ((F52 line w15_).take (Int.toNat (F118 (F52 line w15_)).1.key)) w15_ (by exact (Qfd _ (by assumption)).1) (by exact (Qfd _ (by assumption)).2) (fiS (F119 ((F52 line w15_).take (Int.toNat (F118 (F52 line w15_)).1.key)) w15_) (F89 line) (condF h1 rfl)))))))) (by kernel_rfl)
theorem kc85 (line:ByteArray) {K_:Prop} (p0_:line.size≤1048576) (k_:K_):(line.size≤1048576)∧(Imp (.v (.string line)) (.v (.string line)))∧K_:=⟨p0_,Imp.refl _,k_⟩
abbrev kh85 (line:ByteArray):Hint true Tryz.prog:=.call 85 (S85 line) (ok85 line) none
def F66 (line:ByteArray):ByteArray :=
 bif (!(F85 line)) then (⟨#[]⟩:ByteArray) else (bif (((F42 line).1.getD (Int.toNat 0) default).toList==(⟨#[104,111,115,116]⟩:ByteArray).toList) then (bif (((F42 line).1.getD (Int.toNat 0) default).toList==(⟨#[104,111,115,116]⟩:ByteArray).toList) then ((F42 line).1.getD (Int.toNat 0) default) else (bif (((F42 line).1.getD (Int.toNat 0) default).toList==(⟨#[117,115,101,114]⟩:ByteArray).toList) then (bif (((F42 line).1.getD (Int.toNat 0) default).toList==(⟨#[117,115,101,114]⟩:ByteArray).toList) then ((((F42 line).1.getD (Int.toNat 0) default)++(⟨#[32]⟩:ByteArray))++((F42 line).1.getD (Int.toNat 1) default)) else (bif (((F42 line).1.getD (Int.toNat 0) default).toList==(⟨#[114,117,108,101]⟩:ByteArray).toList) then (bif (((F42 line).1.getD (Int.toNat 0) default).toList==(⟨#[114,117,108,101]⟩:ByteArray).toList) then ((((((F42 line).1.getD (Int.toNat 0) default)++(⟨#[32]⟩:ByteArray))++((F42 line).1.getD (Int.toNat 1) default))++(⟨#[32]⟩:ByteArray))++((F42 line).1.getD (Int.toNat 2) default)) else line) else (bif (((F42 line).1.getD (Int.toNat 0) default).toList==(⟨#[100,111,111,114]⟩:ByteArray).toList) then ((((((F42 line).1.getD (Int.toNat 0) default)++(⟨#[32]⟩:ByteArray))++((F42 line).1.getD (Int.toNat 1) default))++(⟨#[32]⟩:ByteArray))++((F42 line).1.getD (Int.toNat 2) default)) else line))) else (bif (((F42 line).1.getD (Int.toNat 0) default).toList==(⟨#[112,111,114,116]⟩:ByteArray).toList) then (bif (((F42 line).1.getD (Int.toNat 0) default).toList==(⟨#[112,111,114,116]⟩:ByteArray).toList) then ((((F42 line).1.getD (Int.toNat 0) default)++(⟨#[32]⟩:ByteArray))++((F42 line).1.getD (Int.toNat 1) default)) else (bif (((F42 line).1.getD (Int.toNat 0) default).toList==(⟨#[114,117,108,101]⟩:ByteArray).toList) then (bif (((F42 line).1.getD (Int.toNat 0) default).toList==(⟨#[114,117,108,101]⟩:ByteArray).toList) then ((((((F42 line).1.getD (Int.toNat 0) default)++(⟨#[32]⟩:ByteArray))++((F42 line).1.getD (Int.toNat 1) default))++(⟨#[32]⟩:ByteArray))++((F42 line).1.getD (Int.toNat 2) default)) else line) else (bif (((F42 line).1.getD (Int.toNat 0) default).toList==(⟨#[100,111,111,114]⟩:ByteArray).toList) then ((((((F42 line).1.getD (Int.toNat 0) default)++(⟨#[32]⟩:ByteArray))++((F42 line).1.getD (Int.toNat 1) default))++(⟨#[32]⟩:ByteArray))++((F42 line).1.getD (Int.toNat 2) default)) else line))) else (bif (((F42 line).1.getD (Int.toNat 0) default).toList==(⟨#[112,101,101,114]⟩:ByteArray).toList) then ((((F42 line).1.getD (Int.toNat 0) default)++(⟨#[32]⟩:ByteArray))++((F42 line).1.getD (Int.toNat 1) default)) else (bif (((F42 line).1.getD (Int.toNat 0) default).toList==(⟨#[114,117,108,101]⟩:ByteArray).toList) then (bif (((F42 line).1.getD (Int.toNat 0) default).toList==(⟨#[114,117,108,101]⟩:ByteArray).toList) then ((((((F42 line).1.getD (Int.toNat 0) default)++(⟨#[32]⟩:ByteArray))++((F42 line).1.getD (Int.toNat 1) default))++(⟨#[32]⟩:ByteArray))++((F42 line).1.getD (Int.toNat 2) default)) else line) else (bif (((F42 line).1.getD (Int.toNat 0) default).toList==(⟨#[100,111,111,114]⟩:ByteArray).toList) then ((((((F42 line).1.getD (Int.toNat 0) default)++(⟨#[32]⟩:ByteArray))++((F42 line).1.getD (Int.toNat 1) default))++(⟨#[32]⟩:ByteArray))++((F42 line).1.getD (Int.toNat 2) default)) else line)))))) else (bif (((F42 line).1.getD (Int.toNat 0) default).toList==(⟨#[110,97,116]⟩:ByteArray).toList) then ((F42 line).1.getD (Int.toNat 0) default) else (bif (((F42 line).1.getD (Int.toNat 0) default).toList==(⟨#[117,115,101,114]⟩:ByteArray).toList) then (bif (((F42 line).1.getD (Int.toNat 0) default).toList==(⟨#[117,115,101,114]⟩:ByteArray).toList) then ((((F42 line).1.getD (Int.toNat 0) default)++(⟨#[32]⟩:ByteArray))++((F42 line).1.getD (Int.toNat 1) default)) else (bif (((F42 line).1.getD (Int.toNat 0) default).toList==(⟨#[114,117,108,101]⟩:ByteArray).toList) then (bif (((F42 line).1.getD (Int.toNat 0) default).toList==(⟨#[114,117,108,101]⟩:ByteArray).toList) then ((((((F42 line).1.getD (Int.toNat 0) default)++(⟨#[32]⟩:ByteArray))++((F42 line).1.getD (Int.toNat 1) default))++(⟨#[32]⟩:ByteArray))++((F42 line).1.getD (Int.toNat 2) default)) else line) else (bif (((F42 line).1.getD (Int.toNat 0) default).toList==(⟨#[100,111,111,114]⟩:ByteArray).toList) then ((((((F42 line).1.getD (Int.toNat 0) default)++(⟨#[32]⟩:ByteArray))++((F42 line).1.getD (Int.toNat 1) default))++(⟨#[32]⟩:ByteArray))++((F42 line).1.getD (Int.toNat 2) default)) else line))) else (bif (((F42 line).1.getD (Int.toNat 0) default).toList==(⟨#[112,111,114,116]⟩:ByteArray).toList) then (bif (((F42 line).1.getD (Int.toNat 0) default).toList==(⟨#[112,111,114,116]⟩:ByteArray).toList) then ((((F42 line).1.getD (Int.toNat 0) default)++(⟨#[32]⟩:ByteArray))++((F42 line).1.getD (Int.toNat 1) default)) else (bif (((F42 line).1.getD (Int.toNat 0) default).toList==(⟨#[114,117,108,101]⟩:ByteArray).toList) then (bif (((F42 line).1.getD (Int.toNat 0) default).toList==(⟨#[114,117,108,101]⟩:ByteArray).toList) then ((((((F42 line).1.getD (Int.toNat 0) default)++(⟨#[32]⟩:ByteArray))++((F42 line).1.getD (Int.toNat 1) default))++(⟨#[32]⟩:ByteArray))++((F42 line).1.getD (Int.toNat 2) default)) else line) else (bif (((F42 line).1.getD (Int.toNat 0) default).toList==(⟨#[100,111,111,114]⟩:ByteArray).toList) then ((((((F42 line).1.getD (Int.toNat 0) default)++(⟨#[32]⟩:ByteArray))++((F42 line).1.getD (Int.toNat 1) default))++(⟨#[32]⟩:ByteArray))++((F42 line).1.getD (Int.toNat 2) default)) else line))) else (bif (((F42 line).1.getD (Int.toNat 0) default).toList==(⟨#[112,101,101,114]⟩:ByteArray).toList) then ((((F42 line).1.getD (Int.toNat 0) default)++(⟨#[32]⟩:ByteArray))++((F42 line).1.getD (Int.toNat 1) default)) else (bif (((F42 line).1.getD (Int.toNat 0) default).toList==(⟨#[114,117,108,101]⟩:ByteArray).toList) then (bif (((F42 line).1.getD (Int.toNat 0) default).toList==(⟨#[114,117,108,101]⟩:ByteArray).toList) then ((((((F42 line).1.getD (Int.toNat 0) default)++(⟨#[32]⟩:ByteArray))++((F42 line).1.getD (Int.toNat 1) default))++(⟨#[32]⟩:ByteArray))++((F42 line).1.getD (Int.toNat 2) default)) else line) else (bif (((F42 line).1.getD (Int.toNat 0) default).toList==(⟨#[100,111,111,114]⟩:ByteArray).toList) then ((((((F42 line).1.getD (Int.toNat 0) default)++(⟨#[32]⟩:ByteArray))++((F42 line).1.getD (Int.toNat 1) default))++(⟨#[32]⟩:ByteArray))++((F42 line).1.getD (Int.toNat 2) default)) else line)))))))
def S66 (line:ByteArray):Spec:=⟨[.r (.c (.v (.string line)))],.v (.string (F66 line)),line.size≤1048576⟩
theorem ok66 (line:ByteArray):(S66 line).ok Tryz.prog 66 :=
 Qn mixed (fn:=Tryz.f66) (ct:=.seq .no (.seq (.seq (.reg [(1,kh85 line)]) (.cond (.seq .no .no) .no)) (.seq (.reg [(1,kh42 line)]) (.seq (.seq .no (.blk (.seq (.seq .no (.cond .no .no)) (.cond (.seq .no .no) (.seq (.seq .no (.cond .no (.seq .no (.cond .no .no)))) (.cond (.seq .no .no) (.seq (.seq .no (.cond .no .no)) (.cond (.seq .no .no) .no)))))))) (.seq .no .no))))) Tryz.func66 (fun (hpre0:line.size≤1048576)=>kc85 line (by omega) (ifb (!(F85 line)) (fun h1=>fiS w13_ (F66 line) (condT h1 rfl)) (fun h1=>kc42 line (by omega) (fun gv2 gv3=>ai (by (exact kix0 _ (by assumption)):0≤(0:Int)∧(0:Int)<((F42 line).1.length:Int)) (ifb (((F42 line).1.getD (Int.toNat 0) default).toList==w4_.toList) (fun h4=>ifb (((F42 line).1.getD (Int.toNat 0) default).toList==w4_.toList) (fun h5=>ai (by (exact kix0 _ (by assumption)):0≤(0:Int)∧(0:Int)<((F42 line).1.length:Int)) (fiS ((F42 line).1.getD (Int.toNat 0) default) (F66 line) (condF h1 (condT h4 (condT h5 rfl))))) (fun h5=>ifb (((F42 line).1.getD (Int.toNat 0) default).toList==w10_.toList) (fun h6=>ifb (((F42 line).1.getD (Int.toNat 0) default).toList==w10_.toList) (fun h7=>ai (by (exact kix0 _ (by assumption)):0≤(0:Int)∧(0:Int)<((F42 line).1.length:Int)) (ai (by (have hz:=Qd line; have hz0:=hz (Int.toNat 0); have hz1:=hz (Int.toNat 1); have hz2:=hz (Int.toNat 2); have hs:w15_.size=1:=rfl; (try simp only [Qj] at *); omega):((((F42 line).1.getD (Int.toNat 0) default).size+w15_.size:Nat):Int)≤9223372036854775807) (ai (by (exact kix1 _ (by assumption)):0≤(1:Int)∧(1:Int)<((F42 line).1.length:Int)) (ai (by (have hz:=Qd line; have hz0:=hz (Int.toNat 0); have hz1:=hz (Int.toNat 1); have hz2:=hz (Int.toNat 2); have hs:w15_.size=1:=rfl; (try simp only [Qj] at *); omega):(((((F42 line).1.getD (Int.toNat 0) default)++w15_).size+((F42 line).1.getD (Int.toNat 1) default).size:Nat):Int)≤9223372036854775807) (fiS ((((F42 line).1.getD (Int.toNat 0) default)++w15_)++((F42 line).1.getD (Int.toNat 1) default)) (F66 line) (condF h1 (condT h4 (condF h5 (condT h6 (condT h7 rfl)))))))))) (fun h7=>ifb (((F42 line).1.getD (Int.toNat 0) default).toList==w9_.toList) (fun h8=>ifb (((F42 line).1.getD (Int.toNat 0) default).toList==w9_.toList) (fun h9=>ai (by (exact kix0 _ (by assumption)):0≤(0:Int)∧(0:Int)<((F42 line).1.length:Int)) (ai (by (have hz:=Qd line; have hz0:=hz (Int.toNat 0); have hz1:=hz (Int.toNat 1); have hz2:=hz (Int.toNat 2); have hs:w15_.size=1:=rfl; (try simp only [Qj] at *); omega):((((F42 line).1.getD (Int.toNat 0) default).size+w15_.size:Nat):Int)≤9223372036854775807) (ai (by (exact kix1 _ (by assumption)):0≤(1:Int)∧(1:Int)<((F42 line).1.length:Int)) (ai (by (have hz:=Qd line; have hz0:=hz (Int.toNat 0); have hz1:=hz (Int.toNat 1); have hz2:=hz (Int.toNat 2); have hs:w15_.size=1:=rfl; (try simp only [Qj] at *); omega):(((((F42 line).1.getD (Int.toNat 0) default)++w15_).size+((F42 line).1.getD (Int.toNat 1) default).size:Nat):Int)≤9223372036854775807) (ai (by (have hz:=Qd line; have hz0:=hz (Int.toNat 0); have hz1:=hz (Int.toNat 1); have hz2:=hz (Int.toNat 2); have hs:w15_.size=1:=rfl; (try simp only [Qj] at *); omega):((((((F42 line).1.getD (Int.toNat 0) default)++w15_)++((F42 line).1.getD (Int.toNat 1) default)).size+w15_.size:Nat):Int)≤9223372036854775807) (ai (by (exact Vq _ (by assumption) (by assumption)):0≤(2:Int)∧(2:Int)<((F42 line).1.length:Int)) (ai (by (have hz:=Qd line; have hz0:=hz (Int.toNat 0); have hz1:=hz (Int.toNat 1); have hz2:=hz (Int.toNat 2); have hs:w15_.size=1:=rfl; (try simp only [Qj] at *); omega):(((((((F42 line).1.getD (Int.toNat 0) default)++w15_)++((F42 line).1.getD (Int.toNat 1) default))++w15_).size+((F42 line).1.getD (Int.toNat 2) default).size:Nat):Int)≤9223372036854775807) (fiS ((((((F42 line).1.getD (Int.toNat 0) default)++w15_)++((F42 line).1.getD (Int.toNat 1) default))++w15_)++((F42 line).1.getD (Int.toNat 2) default)) (F66 line) (condF h1 (condT h4 (condF h5 (condT h6 (condF h7 (condT h8 (condT h9 rfl))))))))))))))) (fun h9=>fiS line (F66 line) (condF h1 (condT h4 (condF h5 (condT h6 (condF h7 (condT h8 (condF h9 rfl))))))))) (fun h8=>ifb (((F42 line).1.getD (Int.toNat 0) default).toList==w3_.toList) (fun h10=>ai (by (exact kix0 _ (by assumption)):0≤(0:Int)∧(0:Int)<((F42 line).1.length:Int)) (ai (by (have hz:=Qd line; have hz0:=hz (Int.toNat 0); have hz1:=hz (Int.toNat 1); have hz2:=hz (Int.toNat 2); have hs:w15_.size=1:=rfl; (try simp only [Qj] at *); omega):((((F42 line).1.getD (Int.toNat 0) default).size+w15_.size:Nat):Int)≤9223372036854775807) (ai (by (exact kix1 _ (by assumption)):0≤(1:Int)∧(1:Int)<((F42 line).1.length:Int)) (ai (by (have hz:=Qd line; have hz0:=hz (Int.toNat 0); have hz1:=hz (Int.toNat 1); have hz2:=hz (Int.toNat 2); have hs:w15_.size=1:=rfl; (try simp only [Qj] at *); omega):(((((F42 line).1.getD (Int.toNat 0) default)++w15_).size+((F42 line).1.getD (Int.toNat 1) default).size:Nat):Int)≤9223372036854775807) (ai (by (have hz:=Qd line; have hz0:=hz (Int.toNat 0); have hz1:=hz (Int.toNat 1); have hz2:=hz (Int.toNat 2); have hs:w15_.size=1:=rfl; (try simp only [Qj] at *); omega):((((((F42 line).1.getD (Int.toNat 0) default)++w15_)++((F42 line).1.getD (Int.toNat 1) default)).size+w15_.size:Nat):Int)≤9223372036854775807) (ai (by (exact Vs _ (by assumption) (by assumption)):0≤(2:Int)∧(2:Int)<((F42 line).1.length:Int)) (ai (by (have hz:=Qd line; have hz0:=hz (Int.toNat 0); have hz1:=hz (Int.toNat 1); have hz2:=hz (Int.toNat 2); have hs:w15_.size=1:=rfl; (try simp only [Qj] at *); omega):(((((((F42 line).1.getD (Int.toNat 0) default)++w15_)++((F42 line).1.getD (Int.toNat 1) default))++w15_).size+((F42 line).1.getD (Int.toNat 2) default).size:Nat):Int)≤9223372036854775807) (fiS ((((((F42 line).1.getD (Int.toNat 0) default)++w15_)++((F42 line).1.getD (Int.toNat 1) default))++w15_)++((F42 line).1.getD (Int.toNat 2) default)) (F66 line) (condF h1 (condT h4 (condF h5 (condT h6 (condF h7 (condF h8 (condT h10 rfl))))))))))))))) (fun h10=>fiS line (F66 line) (condF h1 (condT h4 (condF h5 (condT h6 (condF h7 (condF h8 (condF h10 rfl))))))))))) (fun h6=>ifb (((F42 line).1.getD (Int.toNat 0) default).toList==w7_.toList) (fun h11=>ifb (((F42 line).1.getD (Int.toNat 0) default).toList==w7_.toList) (fun h12=>ai (by (exact kix0 _ (by assumption)):0≤(0:Int)∧(0:Int)<((F42 line).1.length:Int)) (ai (by (have hz:=Qd line; have hz0:=hz (Int.toNat 0); have hz1:=hz (Int.toNat 1); have hz2:=hz (Int.toNat 2); have hs:w15_.size=1:=rfl; (try simp only [Qj] at *); omega):((((F42 line).1.getD (Int.toNat 0) default).size+w15_.size:Nat):Int)≤9223372036854775807) (ai (by (exact kix1 _ (by assumption)):0≤(1:Int)∧(1:Int)<((F42 line).1.length:Int)) (ai (by (have hz:=Qd line; have hz0:=hz (Int.toNat 0); have hz1:=hz (Int.toNat 1); have hz2:=hz (Int.toNat 2); have hs:w15_.size=1:=rfl; (try simp only [Qj] at *); omega):(((((F42 line).1.getD (Int.toNat 0) default)++w15_).size+((F42 line).1.getD (Int.toNat 1) default).size:Nat):Int)≤9223372036854775807) (fiS ((((F42 line).1.getD (Int.toNat 0) default)++w15_)++((F42 line).1.getD (Int.toNat 1) default)) (F66 line) (condF h1 (condT h4 (condF h5 (condF h6 (condT h11 (condT h12 rfl))))))))))) (fun h12=>ifb (((F42 line).1.getD (Int.toNat 0) default).toList==w9_.toList) (fun h13=>ifb (((F42 line).1.getD (Int.toNat 0) default).toList==w9_.toList) (fun h14=>ai (by (exact kix0 _ (by assumption)):0≤(0:Int)∧(0:Int)<((F42 line).1.length:Int)) (ai (by (have hz:=Qd line; have hz0:=hz (Int.toNat 0); have hz1:=hz (Int.toNat 1); have hz2:=hz (Int.toNat 2); have hs:w15_.size=1:=rfl; (try simp only [Qj] at *); omega):((((F42 line).1.getD (Int.toNat 0) default).size+w15_.size:Nat):Int)≤9223372036854775807) (ai (by (exact kix1 _ (by assumption)):0≤(1:Int)∧(1:Int)<((F42 line).1.length:Int)) (ai (by (have hz:=Qd line; have hz0:=hz (Int.toNat 0); have hz1:=hz (Int.toNat 1); have hz2:=hz (Int.toNat 2); have hs:w15_.size=1:=rfl; (try simp only [Qj] at *); omega):(((((F42 line).1.getD (Int.toNat 0) default)++w15_).size+((F42 line).1.getD (Int.toNat 1) default).size:Nat):Int)≤9223372036854775807) (ai (by (have hz:=Qd line; have hz0:=hz (Int.toNat 0); have hz1:=hz (Int.toNat 1); have hz2:=hz (Int.toNat 2); have hs:w15_.size=1:=rfl; (try simp only [Qj] at *); omega):((((((F42 line).1.getD (Int.toNat 0) default)++w15_)++((F42 line).1.getD (Int.toNat 1) default)).size+w15_.size:Nat):Int)≤9223372036854775807) (ai (by (exact Vq _ (by assumption) (by assumption)):0≤(2:Int)∧(2:Int)<((F42 line).1.length:Int)) (ai (by (have hz:=Qd line; have hz0:=hz (Int.toNat 0); have hz1:=hz (Int.toNat 1); have hz2:=hz (Int.toNat 2); have hs:w15_.size=1:=rfl; (try simp only [Qj] at *); omega):(((((((F42 line).1.getD (Int.toNat 0) default)++w15_)++((F42 line).1.getD (Int.toNat 1) default))++w15_).size+((F42 line).1.getD (Int.toNat 2) default).size:Nat):Int)≤9223372036854775807) (fiS ((((((F42 line).1.getD (Int.toNat 0) default)++w15_)++((F42 line).1.getD (Int.toNat 1) default))++w15_)++((F42 line).1.getD (Int.toNat 2) default)) (F66 line) (condF h1 (condT h4 (condF h5 (condF h6 (condT h11 (condF h12 (condT h13 (condT h14 rfl)))))))))))))))) (fun h14=>fiS line (F66 line) (condF h1 (condT h4 (condF h5 (condF h6 (condT h11 (condF h12 (condT h13 (condF h14 rfl)))))))))) (fun h13=>ifb (((F42 line).1.getD (Int.toNat 0) default).toList==w3_.toList) (fun h15=>ai (by (exact kix0 _ (by assumption)):0≤(0:Int)∧(0:Int)<((F42 line).1.length:Int)) (ai (by (have hz:=Qd line; have hz0:=hz (Int.toNat 0); have hz1:=hz (Int.toNat 1); have hz2:=hz (Int.toNat 2); have hs:w15_.size=1:=rfl; (try simp only [Qj] at *); omega):((((F42 line).1.getD (Int.toNat 0) default).size+w15_.size:Nat):Int)≤9223372036854775807) (ai (by (exact kix1 _ (by assumption)):0≤(1:Int)∧(1:Int)<((F42 line).1.length:Int)) (ai (by (have hz:=Qd line; have hz0:=hz (Int.toNat 0); have hz1:=hz (Int.toNat 1); have hz2:=hz (Int.toNat 2); have hs:w15_.size=1:=rfl; (try simp only [Qj] at *); omega):(((((F42 line).1.getD (Int.toNat 0) default)++w15_).size+((F42 line).1.getD (Int.toNat 1) default).size:Nat):Int)≤9223372036854775807) (ai (by (have hz:=Qd line; have hz0:=hz (Int.toNat 0); have hz1:=hz (Int.toNat 1); have hz2:=hz (Int.toNat 2); have hs:w15_.size=1:=rfl; (try simp only [Qj] at *); omega):((((((F42 line).1.getD (Int.toNat 0) default)++w15_)++((F42 line).1.getD (Int.toNat 1) default)).size+w15_.size:Nat):Int)≤9223372036854775807) (ai (by (exact Vs _ (by assumption) (by assumption)):0≤(2:Int)∧(2:Int)<((F42 line).1.length:Int)) (ai (by (have hz:=Qd line; have hz0:=hz (Int.toNat 0); have hz1:=hz (Int.toNat 1); have hz2:=hz (Int.toNat 2); have hs:w15_.size=1:=rfl; (try simp only [Qj] at *); omega):(((((((F42 line).1.getD (Int.toNat 0) default)++w15_)++((F42 line).1.getD (Int.toNat 1) default))++w15_).size+((F42 line).1.getD (Int.toNat 2) default).size:Nat):Int)≤9223372036854775807) (fiS ((((((F42 line).1.getD (Int.toNat 0) default)++w15_)++((F42 line).1.getD (Int.toNat 1) default))++w15_)++((F42 line).1.getD (Int.toNat 2) default)) (F66 line) (condF h1 (condT h4 (condF h5 (condF h6 (condT h11 (condF h12 (condF h13 (condT h15 rfl)))))))))))))))) (fun h15=>fiS line (F66 line) (condF h1 (condT h4 (condF h5 (condF h6 (condT h11 (condF h12 (condF h13 (condF h15 rfl)))))))))))) (fun h11=>ifb (((F42 line).1.getD (Int.toNat 0) default).toList==w6_.toList) (fun h16=>ai (by (exact kix0 _ (by assumption)):0≤(0:Int)∧(0:Int)<((F42 line).1.length:Int)) (ai (by (have hz:=Qd line; have hz0:=hz (Int.toNat 0); have hz1:=hz (Int.toNat 1); have hz2:=hz (Int.toNat 2); have hs:w15_.size=1:=rfl; (try simp only [Qj] at *); omega):((((F42 line).1.getD (Int.toNat 0) default).size+w15_.size:Nat):Int)≤9223372036854775807) (ai (by (exact kix1 _ (by assumption)):0≤(1:Int)∧(1:Int)<((F42 line).1.length:Int)) (ai (by (have hz:=Qd line; have hz0:=hz (Int.toNat 0); have hz1:=hz (Int.toNat 1); have hz2:=hz (Int.toNat 2); have hs:w15_.size=1:=rfl; (try simp only [Qj] at *); omega):(((((F42 line).1.getD (Int.toNat 0) default)++w15_).size+((F42 line).1.getD (Int.toNat 1) default).size:Nat):Int)≤9223372036854775807) (fiS ((((F42 line).1.getD (Int.toNat 0) default)++w15_)++((F42 line).1.getD (Int.toNat 1) default)) (F66 line) (condF h1 (condT h4 (condF h5 (condF h6 (condF h11 (condT h16 rfl))))))))))) (fun h16=>ifb (((F42 line).1.getD (Int.toNat 0) default).toList==w9_.toList) (fun h17=>ifb (((F42 line).1.getD (Int.toNat 0) default).toList==w9_.toList) (fun h18=>ai (by (exact kix0 _ (by assumption)):0≤(0:Int)∧(0:Int)<((F42 line).1.length:Int)) (ai (by (have hz:=Qd line; have hz0:=hz (Int.toNat 0); have hz1:=hz (Int.toNat 1); have hz2:=hz (Int.toNat 2); have hs:w15_.size=1:=rfl; (try simp only [Qj] at *); omega):((((F42 line).1.getD (Int.toNat 0) default).size+w15_.size:Nat):Int)≤9223372036854775807) (ai (by (exact kix1 _ (by assumption)):0≤(1:Int)∧(1:Int)<((F42 line).1.length:Int)) (ai (by (have hz:=Qd line; have hz0:=hz (Int.toNat 0); have hz1:=hz (Int.toNat 1); have hz2:=hz (Int.toNat 2); have hs:w15_.size=1:=rfl; (try simp only [Qj] at *); omega):(((((F42 line).1.getD (Int.toNat 0) default)++w15_).size+((F42 line).1.getD (Int.toNat 1) default).size:Nat):Int)≤9223372036854775807) (ai (by (have hz:=Qd line; have hz0:=hz (Int.toNat 0); have hz1:=hz (Int.toNat 1); have hz2:=hz (Int.toNat 2); have hs:w15_.size=1:=rfl; (try simp only [Qj] at *); omega):((((((F42 line).1.getD (Int.toNat 0) default)++w15_)++((F42 line).1.getD (Int.toNat 1) default)).size+w15_.size:Nat):Int)≤9223372036854775807) (ai (by (exact Vq _ (by assumption) (by assumption)):0≤(2:Int)∧(2:Int)<((F42 line).1.length:Int)) (ai (by (have hz:=Qd line; have hz0:=hz (Int.toNat 0); have hz1:=hz (Int.toNat 1); have hz2:=hz (Int.toNat 2); have hs:w15_.size=1:=rfl; (try simp only [Qj] at *); omega):(((((((F42 line).1.getD (Int.toNat 0) default)++w15_)++((F42 line).1.getD (Int.toNat 1) default))++w15_).size+((F42 line).1.getD (Int.toNat 2) default).size:Nat):Int)≤9223372036854775807) (fiS ((((((F42 line).1.getD (Int.toNat 0) default)++w15_)++((F42 line).1.getD (Int.toNat 1) default))++w15_)++((F42 line).1.getD (Int.toNat 2) default)) (F66 line) (condF h1 (condT h4 (condF h5 (condF h6 (condF h11 (condF h16 (condT h17 (condT h18 rfl)))))))))))))))) (fun h18=>fiS line (F66 line) (condF h1 (condT h4 (condF h5 (condF h6 (condF h11 (condF h16 (condT h17 (condF h18 rfl)))))))))) (fun h17=>ifb (((F42 line).1.getD (Int.toNat 0) default).toList==w3_.toList) (fun h19=>ai (by (exact kix0 _ (by assumption)):0≤(0:Int)∧(0:Int)<((F42 line).1.length:Int)) (ai (by (have hz:=Qd line; have hz0:=hz (Int.toNat 0); have hz1:=hz (Int.toNat 1); have hz2:=hz (Int.toNat 2); have hs:w15_.size=1:=rfl; (try simp only [Qj] at *); omega):((((F42 line).1.getD (Int.toNat 0) default).size+w15_.size:Nat):Int)≤9223372036854775807) (ai (by (exact kix1 _ (by assumption)):0≤(1:Int)∧(1:Int)<((F42 line).1.length:Int)) (ai (by (have hz:=Qd line; have hz0:=hz (Int.toNat 0); have hz1:=hz (Int.toNat 1); have hz2:=hz (Int.toNat 2); have hs:w15_.size=1:=rfl; (try simp only [Qj] at *); omega):(((((F42 line).1.getD (Int.toNat 0) default)++w15_).size+((F42 line).1.getD (Int.toNat 1) default).size:Nat):Int)≤9223372036854775807) (ai (by (have hz:=Qd line; have hz0:=hz (Int.toNat 0); have hz1:=hz (Int.toNat 1); have hz2:=hz (Int.toNat 2); have hs:w15_.size=1:=rfl; (try simp only [Qj] at *); omega):((((((F42 line).1.getD (Int.toNat 0) default)++w15_)++((F42 line).1.getD (Int.toNat 1) default)).size+w15_.size:Nat):Int)≤9223372036854775807) (ai (by (exact Vs _ (by assumption) (by assumption)):0≤(2:Int)∧(2:Int)<((F42 line).1.length:Int)) (ai (by (have hz:=Qd line; have hz0:=hz (Int.toNat 0); have hz1:=hz (Int.toNat 1); have hz2:=hz (Int.toNat 2); have hs:w15_.size=1:=rfl; (try simp only [Qj] at *); omega):(((((((F42 line).1.getD (Int.toNat 0) default)++w15_)++((F42 line).1.getD (Int.toNat 1) default))++w15_).size+((F42 line).1.getD (Int.toNat 2) default).size:Nat):Int)≤9223372036854775807) (fiS ((((((F42 line).1.getD (Int.toNat 0) default)++w15_)++((F42 line).1.getD (Int.toNat 1) default))++w15_)++((F42 line).1.getD (Int.toNat 2) default)) (F66 line) (condF h1 (condT h4 (condF h5 (condF h6 (condF h11 (condF h16 (condF h17 (condT h19 rfl)))))))))))))))) (fun h19=>fiS line (F66 line) (condF h1 (condT h4 (condF h5 (condF h6 (condF h11 (condF h16 (condF h17 (condF h19 rfl))))))))))))))) (fun h4=>ifb (((F42 line).1.getD (Int.toNat 0) default).toList==w5_.toList) (fun h20=>ai (by (exact kix0 _ (by assumption)):0≤(0:Int)∧(0:Int)<((F42 line).1.length:Int)) (fiS ((F42 line).1.getD (Int.toNat 0) default) (F66 line) (condF h1 (condF h4 (condT h20 rfl))))) (fun h20=>ifb (((F42 line).1.getD (Int.toNat 0) default).toList==w10_.toList) (fun h21=>ifb (((F42 line).1.getD (Int.toNat 0) default).toList==w10_.toList) (fun h22=>ai (by (exact kix0 _ (by assumption)):0≤(0:Int)∧(0:Int)<((F42 line).1.length:Int)) (ai (by (have hz:=Qd line; have hz0:=hz (Int.toNat 0); have hz1:=hz (Int.toNat 1); have hz2:=hz (Int.toNat 2); have hs:w15_.size=1:=rfl; (try simp only [Qj] at *); omega):((((F42 line).1.getD (Int.toNat 0) default).size+w15_.size:Nat):Int)≤9223372036854775807) (ai (by (exact kix1 _ (by assumption)):0≤(1:Int)∧(1:Int)<((F42 line).1.length:Int)) (ai (by (have hz:=Qd line; have hz0:=hz (Int.toNat 0); have hz1:=hz (Int.toNat 1); have hz2:=hz (Int.toNat 2); have hs:w15_.size=1:=rfl; (try simp only [Qj] at *); omega):(((((F42 line).1.getD (Int.toNat 0) default)++w15_).size+((F42 line).1.getD (Int.toNat 1) default).size:Nat):Int)≤9223372036854775807) (fiS ((((F42 line).1.getD (Int.toNat 0) default)++w15_)++((F42 line).1.getD (Int.toNat 1) default)) (F66 line) (condF h1 (condF h4 (condF h20 (condT h21 (condT h22 rfl)))))))))) (fun h22=>ifb (((F42 line).1.getD (Int.toNat 0) default).toList==w9_.toList) (fun h23=>ifb (((F42 line).1.getD (Int.toNat 0) default).toList==w9_.toList) (fun h24=>ai (by (exact kix0 _ (by assumption)):0≤(0:Int)∧(0:Int)<((F42 line).1.length:Int)) (ai (by (have hz:=Qd line; have hz0:=hz (Int.toNat 0); have hz1:=hz (Int.toNat 1); have hz2:=hz (Int.toNat 2); have hs:w15_.size=1:=rfl; (try simp only [Qj] at *); omega):((((F42 line).1.getD (Int.toNat 0) default).size+w15_.size:Nat):Int)≤9223372036854775807) (ai (by (exact kix1 _ (by assumption)):0≤(1:Int)∧(1:Int)<((F42 line).1.length:Int)) (ai (by (have hz:=Qd line; have hz0:=hz (Int.toNat 0); have hz1:=hz (Int.toNat 1); have hz2:=hz (Int.toNat 2); have hs:w15_.size=1:=rfl; (try simp only [Qj] at *); omega):(((((F42 line).1.getD (Int.toNat 0) default)++w15_).size+((F42 line).1.getD (Int.toNat 1) default).size:Nat):Int)≤9223372036854775807) (ai (by (have hz:=Qd line; have hz0:=hz (Int.toNat 0); have hz1:=hz (Int.toNat 1); have hz2:=hz (Int.toNat 2); have hs:w15_.size=1:=rfl; (try simp only [Qj] at *); omega):((((((F42 line).1.getD (Int.toNat 0) default)++w15_)++((F42 line).1.getD (Int.toNat 1) default)).size+w15_.size:Nat):Int)≤9223372036854775807) (ai (by (exact Vq _ (by assumption) (by assumption)):0≤(2:Int)∧(2:Int)<((F42 line).1.length:Int)) (ai (by (have hz:=Qd line; have hz0:=hz (Int.toNat 0); have hz1:=hz (Int.toNat 1); have hz2:=hz (Int.toNat 2); have hs:w15_.size=1:=rfl; (try simp only [Qj] at *); omega):(((((((F42 line).1.getD (Int.toNat 0) default)++w15_)++((F42 line).1.getD (Int.toNat 1) default))++w15_).size+((F42 line).1.getD (Int.toNat 2) default).size:Nat):Int)≤9223372036854775807) (fiS ((((((F42 line).1.getD (Int.toNat 0) default)++w15_)++((F42 line).1.getD (Int.toNat 1) default))++w15_)++((F42 line).1.getD (Int.toNat 2) default)) (F66 line) (condF h1 (condF h4 (condF h20 (condT h21 (condF h22 (condT h23 (condT h24 rfl))))))))))))))) (fun h24=>fiS line (F66 line) (condF h1 (condF h4 (condF h20 (condT h21 (condF h22 (condT h23 (condF h24 rfl))))))))) (fun h23=>ifb (((F42 line).1.getD (Int.toNat 0) default).toList==w3_.toList) (fun h25=>ai (by (exact kix0 _ (by assumption)):0≤(0:Int)∧(0:Int)<((F42 line).1.length:Int)) (ai (by (have hz:=Qd line; have hz0:=hz (Int.toNat 0); have hz1:=hz (Int.toNat 1); have hz2:=hz (Int.toNat 2); have hs:w15_.size=1:=rfl; (try simp only [Qj] at *); omega):((((F42 line).1.getD (Int.toNat 0) default).size+w15_.size:Nat):Int)≤9223372036854775807) (ai (by (exact kix1 _ (by assumption)):0≤(1:Int)∧(1:Int)<((F42 line).1.length:Int)) (ai (by (have hz:=Qd line; have hz0:=hz (Int.toNat 0); have hz1:=hz (Int.toNat 1); have hz2:=hz (Int.toNat 2); have hs:w15_.size=1:=rfl; (try simp only [Qj] at *); omega):(((((F42 line).1.getD (Int.toNat 0) default)++w15_).size+((F42 line).1.getD (Int.toNat 1) default).size:Nat):Int)≤9223372036854775807) (ai (by (have hz:=Qd line; have hz0:=hz (Int.toNat 0); have hz1:=hz (Int.toNat 1); have hz2:=hz (Int.toNat 2); have hs:w15_.size=1:=rfl; (try simp only [Qj] at *); omega):((((((F42 line).1.getD (Int.toNat 0) default)++w15_)++((F42 line).1.getD (Int.toNat 1) default)).size+w15_.size:Nat):Int)≤9223372036854775807) (ai (by (exact Vs _ (by assumption) (by assumption)):0≤(2:Int)∧(2:Int)<((F42 line).1.length:Int)) (ai (by (have hz:=Qd line; have hz0:=hz (Int.toNat 0); have hz1:=hz (Int.toNat 1); have hz2:=hz (Int.toNat 2); have hs:w15_.size=1:=rfl; (try simp only [Qj] at *); omega):(((((((F42 line).1.getD (Int.toNat 0) default)++w15_)++((F42 line).1.getD (Int.toNat 1) default))++w15_).size+((F42 line).1.getD (Int.toNat 2) default).size:Nat):Int)≤9223372036854775807) (fiS ((((((F42 line).1.getD (Int.toNat 0) default)++w15_)++((F42 line).1.getD (Int.toNat 1) default))++w15_)++((F42 line).1.getD (Int.toNat 2) default)) (F66 line) (condF h1 (condF h4 (condF h20 (condT h21 (condF h22 (condF h23 (condT h25 rfl))))))))))))))) (fun h25=>fiS line (F66 line) (condF h1 (condF h4 (condF h20 (condT h21 (condF h22 (condF h23 (condF h25 rfl))))))))))) (fun h21=>ifb (((F42 line).1.getD (Int.toNat 0) default).toList==w7_.toList) (fun h26=>ifb (((F42 line).1.getD (Int.toNat 0) default).toList==w7_.toList) (fun h27=>ai (by (exact kix0 _ (by assumption)):0≤(0:Int)∧(0:Int)<((F42 line).1.length:Int)) (ai (by (have hz:=Qd line; have hz0:=hz (Int.toNat 0); have hz1:=hz (Int.toNat 1); have hz2:=hz (Int.toNat 2); have hs:w15_.size=1:=rfl; (try simp only [Qj] at *); omega):((((F42 line).1.getD (Int.toNat 0) default).size+w15_.size:Nat):Int)≤9223372036854775807) (ai (by (exact kix1 _ (by assumption)):0≤(1:Int)∧(1:Int)<((F42 line).1.length:Int)) (ai (by (have hz:=Qd line; have hz0:=hz (Int.toNat 0); have hz1:=hz (Int.toNat 1); have hz2:=hz (Int.toNat 2); have hs:w15_.size=1:=rfl; (try simp only [Qj] at *); omega):(((((F42 line).1.getD (Int.toNat 0) default)++w15_).size+((F42 line).1.getD (Int.toNat 1) default).size:Nat):Int)≤9223372036854775807) (fiS ((((F42 line).1.getD (Int.toNat 0) default)++w15_)++((F42 line).1.getD (Int.toNat 1) default)) (F66 line) (condF h1 (condF h4 (condF h20 (condF h21 (condT h26 (condT h27 rfl))))))))))) (fun h27=>ifb (((F42 line).1.getD (Int.toNat 0) default).toList==w9_.toList) (fun h28=>ifb (((F42 line).1.getD (Int.toNat 0) default).toList==w9_.toList) (fun h29=>ai (by (exact kix0 _ (by assumption)):0≤(0:Int)∧(0:Int)<((F42 line).1.length:Int)) (ai (by (have hz:=Qd line; have hz0:=hz (Int.toNat 0); have hz1:=hz (Int.toNat 1); have hz2:=hz (Int.toNat 2); have hs:w15_.size=1:=rfl; (try simp only [Qj] at *); omega):((((F42 line).1.getD (Int.toNat 0) default).size+w15_.size:Nat):Int)≤9223372036854775807) (ai (by (exact kix1 _ (by assumption)):0≤(1:Int)∧(1:Int)<((F42 line).1.length:Int)) (ai (by (have hz:=Qd line; have hz0:=hz (Int.toNat 0); have hz1:=hz (Int.toNat 1); have hz2:=hz (Int.toNat 2); have hs:w15_.size=1:=rfl; (try simp only [Qj] at *); omega):(((((F42 line).1.getD (Int.toNat 0) default)++w15_).size+((F42 line).1.getD (Int.toNat 1) default).size:Nat):Int)≤9223372036854775807) (ai (by (have hz:=Qd line; have hz0:=hz (Int.toNat 0); have hz1:=hz (Int.toNat 1); have hz2:=hz (Int.toNat 2); have hs:w15_.size=1:=rfl; (try simp only [Qj] at *); omega):((((((F42 line).1.getD (Int.toNat 0) default)++w15_)++((F42 line).1.getD (Int.toNat 1) default)).size+w15_.size:Nat):Int)≤9223372036854775807) (ai (by (exact Vq _ (by assumption) (by assumption)):0≤(2:Int)∧(2:Int)<((F42 line).1.length:Int)) (ai (by (have hz:=Qd line; have hz0:=hz (Int.toNat 0); have hz1:=hz (Int.toNat 1); have hz2:=hz (Int.toNat 2); have hs:w15_.size=1:=rfl; (try simp only [Qj] at *); omega):(((((((F42 line).1.getD (Int.toNat 0) default)++w15_)++((F42 line).1.getD (Int.toNat 1) default))++w15_).size+((F42 line).1.getD (Int.toNat 2) default).size:Nat):Int)≤9223372036854775807) (fiS ((((((F42 line).1.getD (Int.toNat 0) default)++w15_)++((F42 line).1.getD (Int.toNat 1) default))++w15_)++((F42 line).1.getD (Int.toNat 2) default)) (F66 line) (condF h1 (condF h4 (condF h20 (condF h21 (condT h26 (condF h27 (condT h28 (condT h29 rfl)))))))))))))))) (fun h29=>fiS line (F66 line) (condF h1 (condF h4 (condF h20 (condF h21 (condT h26 (condF h27 (condT h28 (condF h29 rfl)))))))))) (fun h28=>ifb (((F42 line).1.getD (Int.toNat 0) default).toList==w3_.toList) (fun h30=>ai (by (exact kix0 _ (by assumption)):0≤(0:Int)∧(0:Int)<((F42 line).1.length:Int)) (ai (by (have hz:=Qd line; have hz0:=hz (Int.toNat 0); have hz1:=hz (Int.toNat 1); have hz2:=hz (Int.toNat 2); have hs:w15_.size=1:=rfl; (try simp only [Qj] at *); omega):((((F42 line).1.getD (Int.toNat 0) default).size+w15_.size:Nat):Int)≤9223372036854775807) (ai (by (exact kix1 _ (by assumption)):0≤(1:Int)∧(1:Int)<((F42 line).1.length:Int)) (ai (by (have hz:=Qd line; have hz0:=hz (Int.toNat 0); have hz1:=hz (Int.toNat 1); have hz2:=hz (Int.toNat 2); have hs:w15_.size=1:=rfl; (try simp only [Qj] at *); omega):(((((F42 line).1.getD (Int.toNat 0) default)++w15_).size+((F42 line).1.getD (Int.toNat 1) default).size:Nat):Int)≤9223372036854775807) (ai (by (have hz:=Qd line; have hz0:=hz (Int.toNat 0); have hz1:=hz (Int.toNat 1); have hz2:=hz (Int.toNat 2); have hs:w15_.size=1:=rfl; (try simp only [Qj] at *); omega):((((((F42 line).1.getD (Int.toNat 0) default)++w15_)++((F42 line).1.getD (Int.toNat 1) default)).size+w15_.size:Nat):Int)≤9223372036854775807) (ai (by (exact Vs _ (by assumption) (by assumption)):0≤(2:Int)∧(2:Int)<((F42 line).1.length:Int)) (ai (by (have hz:=Qd line; have hz0:=hz (Int.toNat 0); have hz1:=hz (Int.toNat 1); have hz2:=hz (Int.toNat 2); have hs:w15_.size=1:=rfl; (try simp only [Qj] at *); omega):(((((((F42 line).1.getD (Int.toNat 0) default)++w15_)++((F42 line).1.getD (Int.toNat 1) default))++w15_).size+((F42 line).1.getD (Int.toNat 2) default).size:Nat):Int)≤9223372036854775807) (fiS ((((((F42 line).1.getD (Int.toNat 0) default)++w15_)++((F42 line).1.getD (Int.toNat 1) default))++w15_)++((F42 line).1.getD (Int.toNat 2) default)) (F66 line) (condF h1 (condF h4 (condF h20 (condF h21 (condT h26 (condF h27 (condF h28 (condT h30 rfl)))))))))))))))) (fun h30=>fiS line (F66 line) (condF h1 (condF h4 (condF h20 (condF h21 (condT h26 (condF h27 (condF h28 (condF h30 rfl)))))))))))) (fun h26=>ifb (((F42 line).1.getD (Int.toNat 0) default).toList==w6_.toList) (fun h31=>ai (by (exact kix0 _ (by assumption)):0≤(0:Int)∧(0:Int)<((F42 line).1.length:Int)) (ai (by (have hz:=Qd line; have hz0:=hz (Int.toNat 0); have hz1:=hz (Int.toNat 1); have hz2:=hz (Int.toNat 2); have hs:w15_.size=1:=rfl; (try simp only [Qj] at *); omega):((((F42 line).1.getD (Int.toNat 0) default).size+w15_.size:Nat):Int)≤9223372036854775807) (ai (by (exact kix1 _ (by assumption)):0≤(1:Int)∧(1:Int)<((F42 line).1.length:Int)) (ai (by (have hz:=Qd line; have hz0:=hz (Int.toNat 0); have hz1:=hz (Int.toNat 1); have hz2:=hz (Int.toNat 2); have hs:w15_.size=1:=rfl; (try simp only [Qj] at *); omega):(((((F42 line).1.getD (Int.toNat 0) default)++w15_).size+((F42 line).1.getD (Int.toNat 1) default).size:Nat):Int)≤9223372036854775807) (fiS ((((F42 line).1.getD (Int.toNat 0) default)++w15_)++((F42 line).1.getD (Int.toNat 1) default)) (F66 line) (condF h1 (condF h4 (condF h20 (condF h21 (condF h26 (condT h31 rfl))))))))))) (fun h31=>ifb (((F42 line).1.getD (Int.toNat 0) default).toList==w9_.toList) (fun h32=>ifb (((F42 line).1.getD (Int.toNat 0) default).toList==w9_.toList) (fun h33=>ai (by (exact kix0 _ (by assumption)):0≤(0:Int)∧(0:Int)<((F42 line).1.length:Int)) (ai (by (have hz:=Qd line; have hz0:=hz (Int.toNat 0); have hz1:=hz (Int.toNat 1); have hz2:=hz (Int.toNat 2); have hs:w15_.size=1:=rfl; (try simp only [Qj] at *); omega):((((F42 line).1.getD (Int.toNat 0) default).size+w15_.size:Nat):Int)≤9223372036854775807) (ai (by (exact kix1 _ (by assumption)):0≤(1:Int)∧(1:Int)<((F42 line).1.length:Int)) (ai (by (have hz:=Qd line; have hz0:=hz (Int.toNat 0); have hz1:=hz (Int.toNat 1); have hz2:=hz (Int.toNat 2); have hs:w15_.size=1:=rfl; (try simp only [Qj] at *); omega):(((((F42 line).1.getD (Int.toNat 0) default)++w15_).size+((F42 line).1.getD (Int.toNat 1) default).size:Nat):Int)≤9223372036854775807) (ai (by (have hz:=Qd line; have hz0:=hz (Int.toNat 0); have hz1:=hz (Int.toNat 1); have hz2:=hz (Int.toNat 2); have hs:w15_.size=1:=rfl; (try simp only [Qj] at *); omega):((((((F42 line).1.getD (Int.toNat 0) default)++w15_)++((F42 line).1.getD (Int.toNat 1) default)).size+w15_.size:Nat):Int)≤9223372036854775807) (ai (by (exact Vq _ (by assumption) (by assumption)):0≤(2:Int)∧(2:Int)<((F42 line).1.length:Int)) (ai (by (have hz:=Qd line; have hz0:=hz (Int.toNat 0); have hz1:=hz (Int.toNat 1); have hz2:=hz (Int.toNat 2); have hs:w15_.size=1:=rfl; (try simp only [Qj] at *); omega):(((((((F42 line).1.getD (Int.toNat 0) default)++w15_)++((F42 line).1.getD (Int.toNat 1) default))++w15_).size+((F42 line).1.getD (Int.toNat 2) default).size:Nat):Int)≤9223372036854775807) (fiS ((((((F42 line).1.getD (Int.toNat 0) default)++w15_)++((F42 line).1.getD (Int.toNat 1) default))++w15_)++((F42 line).1.getD (Int.toNat 2) default)) (F66 line) (condF h1 (condF h4 (condF h20 (condF h21 (condF h26 (condF h31 (condT h32 (condT h33 rfl)))))))))))))))) (fun h33=>fiS line (F66 line) (condF h1 (condF h4 (condF h20 (condF h21 (condF h26 (condF h31 (condT h32 (condF h33 rfl)))))))))) (fun h32=>ifb (((F42 line).1.getD (Int.toNat 0) default).toList==w3_.toList) (fun h34=>ai (by (exact kix0 _ (by assumption)):0≤(0:Int)∧(0:Int)<((F42 line).1.length:Int)) (ai (by (have hz:=Qd line; have hz0:=hz (Int.toNat 0); have hz1:=hz (Int.toNat 1); have hz2:=hz (Int.toNat 2); have hs:w15_.size=1:=rfl; (try simp only [Qj] at *); omega):((((F42 line).1.getD (Int.toNat 0) default).size+w15_.size:Nat):Int)≤9223372036854775807) (ai (by (exact kix1 _ (by assumption)):0≤(1:Int)∧(1:Int)<((F42 line).1.length:Int)) (ai (by (have hz:=Qd line; have hz0:=hz (Int.toNat 0); have hz1:=hz (Int.toNat 1); have hz2:=hz (Int.toNat 2); have hs:w15_.size=1:=rfl; (try simp only [Qj] at *); omega):(((((F42 line).1.getD (Int.toNat 0) default)++w15_).size+((F42 line).1.getD (Int.toNat 1) default).size:Nat):Int)≤9223372036854775807) (ai (by (have hz:=Qd line; have hz0:=hz (Int.toNat 0); have hz1:=hz (Int.toNat 1); have hz2:=hz (Int.toNat 2); have hs:w15_.size=1:=rfl; (try simp only [Qj] at *); omega):((((((F42 line).1.getD (Int.toNat 0) default)++w15_)++((F42 line).1.getD (Int.toNat 1) default)).size+w15_.size:Nat):Int)≤9223372036854775807) (ai (by (exact Vs _ (by assumption) (by assumption)):0≤(2:Int)∧(2:Int)<((F42 line).1.length:Int)) (ai (by (have hz:=Qd line; have hz0:=hz (Int.toNat 0); have hz1:=hz (Int.toNat 1); have hz2:=hz (Int.toNat 2); have hs:w15_.size=1:=rfl; (try simp only [Qj] at *); omega):(((((((F42 line).1.getD (Int.toNat 0) default)++w15_)++((F42 line).1.getD (Int.toNat 1) default))++w15_).size+((F42 line).1.getD (Int.toNat 2) default).size:Nat):Int)≤9223372036854775807) (fiS ((((((F42 line).1.getD (Int.toNat 0) default)++w15_)++((F42 line).1.getD (Int.toNat 1) default))++w15_)++((F42 line).1.getD (Int.toNat 2) default)) (F66 line) (condF h1 (condF h4 (condF h20 (condF h21 (condF h26 (condF h31 (condF h32 (condT h34 rfl)))))))))))))))) (fun h34=>fiS line (F66 line) (condF h1 (condF h4 (condF h20 (condF h21 (condF h26 (condF h31 (condF h32 (condF h34 rfl)))))))))))))))))))) (by kernel_rfl)
theorem join1 (a sp:ByteArray):Ys [a] sp=a:=Jj (by show Lib.join _ _=_; exact Lib.join_one _ _)
theorem Lj (ws:List ByteArray) (sp:ByteArray):(Ys ws sp).data.toList=Lib.join (ws.map (·.data.toList)) sp.data.toList:=rfl
theorem Qzx (a b sp:ByteArray):Ys [a,b] sp=(a++sp)++b:=Jj (by
 rw [Lj,List.map_cons,Lib.join_cons]
 simp [Lib.joinTail,ByteArray.data_append,Array.toList_append,List.append_assoc])
theorem join3 (a b c sp:ByteArray):Ys [a,b,c] sp=(((a++sp)++b)++sp)++c:=Jj (by
 rw [Lj,List.map_cons,Lib.join_cons]
 simp [Lib.joinTail,ByteArray.data_append,Array.toList_append,List.append_assoc])
theorem Qje (w:List ByteArray) (h:1≤w.length):w.take 1=[w.getD 0 default]:=by
 match w,h with
 | a :: _,_=>rfl
theorem Bd (w:List ByteArray) (h:2≤w.length):w.take 2=[w.getD 0 default,w.getD 1 default]:=by
 match w,h with
 | a :: b :: _,_=>rfl
theorem Qbc (w:List ByteArray) (h:3≤w.length):w.take 3=[w.getD 0 default,w.getD 1 default,w.getD 2 default]:=by
 match w,h with
 | a :: b :: c :: _,_=>rfl
theorem Qle (line:ByteArray) (h:F85 line=true):F66 line=Ys ((F42 line).1.take (keyN (((F42 line).1.getD 0 default).data.toList)).toNat) (⟨#[32]⟩:ByteArray):=by
 have hk:=Hj line h
 have hj:=hk.joins
 unfold F66
 have e0:(F42 line).1.getD (Int.toNat 0) default=(F42 line).1.getD 0 default:=rfl
 have e1:(F42 line).1.getD (Int.toNat 1) default=(F42 line).1.getD 1 default:=rfl
 have e2:(F42 line).1.getD (Int.toNat 2) default=(F42 line).1.getD 2 default:=rfl
 simp only [h,Bool.not_true,cond_false,e0,e1,e2,blit]
 have hf:=hk.form
 generalize (F42 line).1=w at hf hj
 rcases hf with hf | hf | hf | hf | hf | hf | hf | hf
 ·have h0:=hf.1
  have hn:keyN (w.getD 0 default).data.toList=1:=by rw [h0]; decide
  have hl:2≤w.length:=by unfold Qem at hf; omega
  rw [hn,show ((1:Int).toNat)=1 from rfl]
  simp only [h0,show (([104,111,115,116]:List UInt8)==([104,111,115,116]:List UInt8))=true from by decide ,show (([104,111,115,116]:List UInt8)==([117,115,101,114]:List UInt8))=false from by decide ,show (([104,111,115,116]:List UInt8)==([112,111,114,116]:List UInt8))=false from by decide ,show (([104,111,115,116]:List UInt8)==([114,117,108,101]:List UInt8))=false from by decide ,show (([104,111,115,116]:List UInt8)==([114,111,117,116,101]:List UInt8))=false from by decide ,show (([104,111,115,116]:List UInt8)==([112,101,101,114]:List UInt8))=false from by decide ,show (([104,111,115,116]:List UInt8)==([110,97,116]:List UInt8))=false from by decide ,show (([104,111,115,116]:List UInt8)==([100,111,111,114]:List UInt8))=false from by decide,cond_true,cond_false]
  rw [Qje w (by omega),join1]
 ·have h0:=hf.1
  have hn:keyN (w.getD 0 default).data.toList=2:=by rw [h0]; decide
  have hl:2≤w.length:=by unfold Wq at hf; omega
  rw [hn,show ((2:Int).toNat)=2 from rfl]
  simp only [h0,show (([117,115,101,114]:List UInt8)==([104,111,115,116]:List UInt8))=false from by decide ,show (([117,115,101,114]:List UInt8)==([117,115,101,114]:List UInt8))=true from by decide ,show (([117,115,101,114]:List UInt8)==([112,111,114,116]:List UInt8))=false from by decide ,show (([117,115,101,114]:List UInt8)==([114,117,108,101]:List UInt8))=false from by decide ,show (([117,115,101,114]:List UInt8)==([114,111,117,116,101]:List UInt8))=false from by decide ,show (([117,115,101,114]:List UInt8)==([112,101,101,114]:List UInt8))=false from by decide ,show (([117,115,101,114]:List UInt8)==([110,97,116]:List UInt8))=false from by decide ,show (([117,115,101,114]:List UInt8)==([100,111,111,114]:List UInt8))=false from by decide,cond_true,cond_false]
  rw [Bd w (by omega),Qzx]
 ·have h0:=hf.1
  have hn:keyN (w.getD 0 default).data.toList=2:=by rw [h0]; decide
  have hl:2≤w.length:=by unfold Jk at hf; omega
  rw [hn,show ((2:Int).toNat)=2 from rfl]
  simp only [h0,show (([112,111,114,116]:List UInt8)==([104,111,115,116]:List UInt8))=false from by decide ,show (([112,111,114,116]:List UInt8)==([117,115,101,114]:List UInt8))=false from by decide ,show (([112,111,114,116]:List UInt8)==([112,111,114,116]:List UInt8))=true from by decide ,show (([112,111,114,116]:List UInt8)==([114,117,108,101]:List UInt8))=false from by decide ,show (([112,111,114,116]:List UInt8)==([114,111,117,116,101]:List UInt8))=false from by decide ,show (([112,111,114,116]:List UInt8)==([112,101,101,114]:List UInt8))=false from by decide ,show (([112,111,114,116]:List UInt8)==([110,97,116]:List UInt8))=false from by decide ,show (([112,111,114,116]:List UInt8)==([100,111,111,114]:List UInt8))=false from by decide,cond_true,cond_false]
  rw [Bd w (by omega),Qzx]
 ·have h0:=hf.1
  have hn:keyN (w.getD 0 default).data.toList=3:=by rw [h0]; decide
  have hl:3≤w.length:=by unfold Wd at hf; omega
  rw [hn,show ((3:Int).toNat)=3 from rfl]
  simp only [h0,show (([114,117,108,101]:List UInt8)==([104,111,115,116]:List UInt8))=false from by decide ,show (([114,117,108,101]:List UInt8)==([117,115,101,114]:List UInt8))=false from by decide ,show (([114,117,108,101]:List UInt8)==([112,111,114,116]:List UInt8))=false from by decide ,show (([114,117,108,101]:List UInt8)==([114,117,108,101]:List UInt8))=true from by decide ,show (([114,117,108,101]:List UInt8)==([114,111,117,116,101]:List UInt8))=false from by decide ,show (([114,117,108,101]:List UInt8)==([112,101,101,114]:List UInt8))=false from by decide ,show (([114,117,108,101]:List UInt8)==([110,97,116]:List UInt8))=false from by decide ,show (([114,117,108,101]:List UInt8)==([100,111,111,114]:List UInt8))=false from by decide,cond_true,cond_false]
  rw [Qbc w (by omega),join3]
 ·have h0:=hf.1
  have hn:keyN (w.getD 0 default).data.toList=3:=by rw [h0]; decide
  have hl:3≤w.length:=by unfold Vg at hf; omega
  rw [hn,show ((3:Int).toNat)=3 from rfl]
  simp only [h0,show (([114,111,117,116,101]:List UInt8)==([104,111,115,116]:List UInt8))=false from by decide ,show (([114,111,117,116,101]:List UInt8)==([117,115,101,114]:List UInt8))=false from by decide ,show (([114,111,117,116,101]:List UInt8)==([112,111,114,116]:List UInt8))=false from by decide ,show (([114,111,117,116,101]:List UInt8)==([114,117,108,101]:List UInt8))=false from by decide ,show (([114,111,117,116,101]:List UInt8)==([114,111,117,116,101]:List UInt8))=true from by decide ,show (([114,111,117,116,101]:List UInt8)==([112,101,101,114]:List UInt8))=false from by decide ,show (([114,111,117,116,101]:List UInt8)==([110,97,116]:List UInt8))=false from by decide ,show (([114,111,117,116,101]:List UInt8)==([100,111,111,114]:List UInt8))=false from by decide,cond_true,cond_false]
  rw [List.take_of_length_le (by unfold Vg at hf; omega)]
  exact hj.symm
 ·have h0:=hf.1
  have hn:keyN (w.getD 0 default).data.toList=2:=by rw [h0]; decide
  have hl:2≤w.length:=by unfold Wc at hf; omega
  rw [hn,show ((2:Int).toNat)=2 from rfl]
  simp only [h0,show (([112,101,101,114]:List UInt8)==([104,111,115,116]:List UInt8))=false from by decide ,show (([112,101,101,114]:List UInt8)==([117,115,101,114]:List UInt8))=false from by decide ,show (([112,101,101,114]:List UInt8)==([112,111,114,116]:List UInt8))=false from by decide ,show (([112,101,101,114]:List UInt8)==([114,117,108,101]:List UInt8))=false from by decide ,show (([112,101,101,114]:List UInt8)==([114,111,117,116,101]:List UInt8))=false from by decide ,show (([112,101,101,114]:List UInt8)==([112,101,101,114]:List UInt8))=true from by decide ,show (([112,101,101,114]:List UInt8)==([110,97,116]:List UInt8))=false from by decide ,show (([112,101,101,114]:List UInt8)==([100,111,111,114]:List UInt8))=false from by decide,cond_true,cond_false]
  rw [Bd w (by omega),Qzx]
 ·have h0:=hf.1
  have hn:keyN (w.getD 0 default).data.toList=1:=by rw [h0]; decide
  have hl:2≤w.length:=by unfold natP at hf; omega
  rw [hn,show ((1:Int).toNat)=1 from rfl]
  simp only [h0,show (([110,97,116]:List UInt8)==([104,111,115,116]:List UInt8))=false from by decide ,show (([110,97,116]:List UInt8)==([117,115,101,114]:List UInt8))=false from by decide ,show (([110,97,116]:List UInt8)==([112,111,114,116]:List UInt8))=false from by decide ,show (([110,97,116]:List UInt8)==([114,117,108,101]:List UInt8))=false from by decide ,show (([110,97,116]:List UInt8)==([114,111,117,116,101]:List UInt8))=false from by decide ,show (([110,97,116]:List UInt8)==([112,101,101,114]:List UInt8))=false from by decide ,show (([110,97,116]:List UInt8)==([110,97,116]:List UInt8))=true from by decide ,show (([110,97,116]:List UInt8)==([100,111,111,114]:List UInt8))=false from by decide,cond_true,cond_false]
  rw [Qje w (by omega),join1]
 ·have h0:=hf.1
  have hn:keyN (w.getD 0 default).data.toList=3:=by rw [h0]; decide
  have hl:3≤w.length:=by unfold Ug at hf; omega
  rw [hn,show ((3:Int).toNat)=3 from rfl]
  simp only [h0,show (([100,111,111,114]:List UInt8)==([104,111,115,116]:List UInt8))=false from by decide ,show (([100,111,111,114]:List UInt8)==([117,115,101,114]:List UInt8))=false from by decide ,show (([100,111,111,114]:List UInt8)==([112,111,114,116]:List UInt8))=false from by decide ,show (([100,111,111,114]:List UInt8)==([114,117,108,101]:List UInt8))=false from by decide ,show (([100,111,111,114]:List UInt8)==([114,111,117,116,101]:List UInt8))=false from by decide ,show (([100,111,111,114]:List UInt8)==([112,101,101,114]:List UInt8))=false from by decide ,show (([100,111,111,114]:List UInt8)==([110,97,116]:List UInt8))=false from by decide ,show (([100,111,111,114]:List UInt8)==([100,111,111,114]:List UInt8))=true from by decide,cond_true,cond_false]
  rw [Qbc w (by omega),join3]
theorem Qzm (line:ByteArray):F89 line=F66 line:=by
 cases h:F85 line with
 | false =>
  unfold F89 F66
  rw [Vt,h]; rfl
 | true =>
  rw [Qle line h]
  obtain ⟨k1,k2⟩:=Pf line h
  unfold F89
  rw [Vt,h,k1,k2]; rfl
theorem Qft {α σ ρ τ ω:Type} [Inhabited α] (xs:List α) (upd:σ→α→σ) (emb:σ→Int→ω) (step:ω→Lp ω ρ)
  (h1:∀ (i:Nat) (s:σ),i<xs.length→step (emb s (i:Int))=.next (emb (upd s (xs.getD i default)) ((i+1:Nat):Int))) (h2:∀ s:σ,step (emb s (xs.length:Int))=.done (emb s (xs.length:Int)))
  (f:ρ→τ) (g:ω→τ):∀ (m i:Nat) (s:σ),i+m=xs.length→∀ fuel,m<fuel→(runL step fuel (emb s (i:Int))).fin f g=g (emb ((xs.drop i).foldl upd s) (xs.length:Int))
 | m,i,_,_,0,hf=>absurd hf (Nat.not_lt_zero _)
 | 0,i,s,h,fuel+1,hf=>by
  obtain rfl:i=xs.length:=by omega
  rw [Kv _ (h2 s),List.drop_of_length_le (Nat.le_refl _)]; rfl
 | m+1,i,s,h,fuel+1,hf=>by
  have hd:xs.drop i=xs.getD i default :: xs.drop (i+1):=by
   rw [List.drop_eq_getElem_cons (show i<xs.length by omega),List.getD_eq_getElem?_getD,List.getElem?_eq_getElem (show i<xs.length by omega)]; rfl
  rw [Yf _ (h1 i s (by omega)),Qft xs upd emb step h1 h2 f g m (i+1) _ (by omega) fuel (by omega),hd,List.foldl_cons]
theorem Ye {α σ ρ τ ω:Type} [Inhabited α] (xs:List α) (upd:σ→α→σ) (emb:σ→Int→ω) (step:ω→Lp ω ρ)
  (h1:∀ (i:Nat) (s:σ),i<xs.length→step (emb s (i:Int))=.next (emb (upd s (xs.getD i default)) ((i+1:Nat):Int))) (h2:∀ s:σ,step (emb s (xs.length:Int))=.done (emb s (xs.length:Int)))
  (f:ρ→τ) (g:ω→τ) (s:σ):(runL step (((xs.length:Int)-0).toNat+1) (emb s 0)).fin f g=g (emb (xs.foldl upd s) (xs.length:Int)):=by
 have:=Qft xs upd emb step h1 h2 f g xs.length 0 s (by omega) (Int.toNat ((xs.length:Int)-0)+1) (by omega)
 rw [List.drop_zero] at this
 exact this
theorem Kq {α:Type} [Inhabited α] (ws:List α) (p:α→Bool):∀ (m i:Nat),i+m=ws.length→anyF (fun k=>p (ws.getD k default)) i m=(ws.drop i).any p
 | 0,i,h=>by rw [List.drop_of_length_le (by omega)]; rfl
 | m+1,i,h=>by
  have hd:ws.drop i=ws.getD i default :: ws.drop (i+1):=by
   rw [List.drop_eq_getElem_cons (show i<ws.length by omega),List.getD_eq_getElem?_getD,List.getElem?_eq_getElem (show i<ws.length by omega)]; rfl
  rw [hd,List.any_cons,anyF,Kq ws p m (i+1) (by omega)]
theorem anyL {α ρ τ:Type} [Inhabited α] (xs:List α) (p:α→Bool) (bad:ρ) (step:Int→Lp Int ρ)
  (h1:∀ i:Nat,i<xs.length→step (i:Int)=bif p (xs.getD i default) then .ret bad else .next ((i+1:Nat):Int)) (h2:step (xs.length:Int)=.done (xs.length:Int))
  (f:ρ→τ) (g:Int→τ) (y:τ) (hg:∀ i,g i=y):(runL step (((xs.length:Int)-0).toNat+1) 0).fin f g=bif xs.any p then f bad else y:=by
 have h:=Yk step xs.length (fun k=>p (xs.getD k default)) bad f y h1 h2 xs.length 0 (by omega) (Int.toNat ((xs.length:Int)-0)+1) (by omega)
 rw [Kq xs p xs.length 0 (by omega),List.drop_zero] at h
 rw [show g=fun _=>y from funext hg]
 exact h
theorem Lw {α β:Type} (p:α→Bool) (f:α→β):∀ (xs:List α) (s:List β),xs.foldl (fun s x=>bif p x then s++[f x] else s) s=s++(xs.filter p).map f
 | [],s=>by simp
 | x :: xs,s=>by
  rw [List.foldl_cons,Lw p f xs]
  cases h:p x with
  | true=>rw [cond_true,List.filter_cons_of_pos h,List.map_cons,List.append_assoc]; rfl
  | false=>rw [cond_false,List.filter_cons_of_neg (by simp [h])]
theorem Zt {α β:Type} (f:α→β):∀ (xs:List α) (s:List β),xs.foldl (fun s x=>s++[f x]) s=s++xs.map f
 | [],s=>by simp
 | x :: xs,s=>by
  rw [List.foldl_cons,Zt f xs,List.map_cons,List.append_assoc]; rfl
theorem Br {α:Type} (p:α→Bool):∀ (xs:List α) (n:Int),xs.foldl (fun n x=>bif p x then n+1 else n) n=n+(xs.filter p).length
 | [],n=>by simp
 | x :: xs,n=>by
  rw [List.foldl_cons,Br p xs]
  cases h:p x with
  | true=>rw [cond_true,List.filter_cons_of_pos h,List.length_cons]; omega
  | false=>rw [cond_false,List.filter_cons_of_neg (by simp [h])]
theorem kc66 (line:ByteArray) {K_:Prop} (p0_:line.size≤1048576) (k_:K_):(line.size≤1048576)∧(Imp (.v (.string line)) (.v (.string line)))∧K_:=⟨p0_,Imp.refl _,k_⟩
abbrev kh66 (line:ByteArray):Hint true Tryz.prog:=.call 66 (S66 line) (ok66 line) none
def Xr (lines:List ByteArray):(List ByteArray×Int)→Lp (List ByteArray×Int) (List ByteArray):=fun (out,i40) =>
 bif (decide (i40<(lines.length:Int))) then (.next ((out++[(F66 (lines.getD i40.toNat default))]),(i40+1))) else (.done (out,i40))
def F40 (lines:List ByteArray):List ByteArray :=
 (runL (Xr lines) (((lines.length:Int)-0).toNat+1) (([]:List ByteArray),0)).fin (fun r=>r) (fun (out,i40)=>out)
abbrev Ei (lines:List ByteArray):Nat×(List ByteArray×Int):=((((lines.length:Int)-0).toNat+1),(([]:List ByteArray),0))
abbrev Qni (lines:List ByteArray) (m39:Nat) (out:List ByteArray) (i40:Int):Prop:=Int.toNat ((lines.length:Int)-i40)<m39∧(out.length:Int)≤i40∧(0:Int)≤i40
abbrev Qyt (lines:List ByteArray):Lp (List ByteArray×Int) (List ByteArray):=LpX (Xr lines) (Ei lines)
abbrev Qcj (lines:List ByteArray) (i:Nat×(List ByteArray×Int)):Prop:=LpJ (Xr lines) (Ei lines) i (Qni lines i.1 i.2.1 i.2.2)
abbrev Qus (lines:List ByteArray) (i:Nat×(List ByteArray×Int)) (m39:Nat) (out:List ByteArray) (i40:Int):Prop:=LpH (Xr lines) (Ei lines) i m39 (out,i40) (Qni lines (m39+1) out i40)
abbrev Qwh (lines:List ByteArray) (out:List ByteArray) (i40:Int) (out_:List ByteArray) (i40_:Int) (K39:Prop):Prop:=((.int .i64 i40:Value)=.int .i64 i40_)∧(Im (.l 1 eStr lines))∧(Imp (.l 1 eStr out) (.l 1 eStr out_))∧K39
theorem un40_0 (lines:List ByteArray) (i:Nat×(List ByteArray×Int)) (h:Qcj lines i):Qus lines i (i.1-1) i.2.1 i.2.2:=⟨hd1 h.1 h.2.1,hd3 h.2.1,hd2 h.2.1,h.2.2⟩
theorem bk40_0 (lines:List ByteArray) (i:Nat×(List ByteArray×Int)) (m39:Nat) (out:List ByteArray) (i40:Int) (hl:m39<i.1) (e:runL (Xr lines) m39 (out,i40)=Qyt lines) (h:Qni lines m39 out i40):∃ j:Nat×(List ByteArray×Int),Qwh lines out i40 j.2.1 j.2.2 (Qcj lines j∧j.1<i.1):=⟨(m39,(out,i40)),rfl,Imp.refl _,Imp.refl _,⟨e,h⟩,hl⟩
theorem en40_0 (lines:List ByteArray) (h:(([]:List ByteArray).length:Int)≤0∧(0:Int)≤0):Qwh lines ([]:List ByteArray) 0 ([]:List ByteArray) 0 (Qcj lines (Ei lines)):=⟨rfl,Imp.refl _,Imp.refl _,rfl,Nat.lt_succ_self _,h⟩
theorem fi40 (lines:List ByteArray) (r:List ByteArray) (hF:r=(F40 lines)):(Imp (.l 1 eStr r) (.l 1 eStr (F40 lines)))∧True:=by cases hF; exact ⟨Imp.refl _,trivial⟩
def S40 (R:List ByteArray) (lines:List ByteArray):Spec:=⟨[.r (.c (.l 1 eStr lines))],.ow (.l 1 eStr R),lines.length≤1048576∧(∀ k:Nat,(lines.getD k default).size≤1048576)⟩
theorem ok40 (lines:List ByteArray):(S40 (F40 lines) lines).ok Tryz.prog 40 :=
 Qn mixed (fn:=Tryz.f40) (ct:=.seqk [(0,0)] .no (.seq (.reg [(0,.dat (.l 1 eStr ([]:List ByteArray)))]) (.seq (.seqk [(0,0),(3,0)] .no (.blk (.loop (ι:=Nat×(List ByteArray×Int)) (fun i=>(fun (out:List ByteArray) (i40:Int)=>(⟨[(0,some (.h 0 0)),(3,some (.h 1 0)),(4,some (.v (vI i40)))],[(0,some (.shr none (.l 1 eStr lines))),(1,some (.own 1 (.l 1 eStr out)))],2⟩:St)) i.2.1 i.2.2) (Qcj lines) (fun i=>i.1) (Ei lines) (fun i=>(fun (out:List ByteArray) (i40:Int)=>(.seq (.seq .no (.cond .no .no)) (.seq (.blk (.reg [(5,kh66 (lines.getD i40.toNat default)),(7,.dat (.l 1 eStr (out++[(F66 (lines.getD i40.toNat default))])))])) (.reg [(1,.bnd)])))) i.2.1 i.2.2)))) (.seq .no .no)))) Tryz.func40 (fun (hp:lines.length≤1048576∧(∀ k:Nat,(lines.getD k default).size≤1048576))=>have hpre0:=hp.1; have hpre1:=hp.2; kn lines fun _=>ai (bokr 1 eStr ([]:List ByteArray) fun _=>rfl) (kn lines fun _=>kn ([]:List ByteArray) fun _=>ai (en40_0 lines (by refine ⟨?_,?_⟩ <;> first | omega | (simp only [lens,ib] at*<;> omega))) (fun (i0:Nat×(List ByteArray×Int)) (hi0:Qcj lines i0)=>(fun (m0:Nat) (out:List ByteArray) (i40:Int) (hh0:Qus lines i0 m0 out i40)=>have hI0:=hh0.1; have hl0:=hh0.2.1; have _:=hh0.2.2.1; have _:=hh0.2.2.2; ifd (i40<(lines.length:Int)) (fun h2 _=>ai (by first | omega | (simp only [lens,ib] at*<;> omega):ib i40 lines) (kc66 (lines.getD i40.toNat default) (by first | omega | exact hpre1 _ | (intros; exact trivial) | (intros; exact Nat.zero_le _)) (ai (appr 1 eStr out [(F66 (lines.getD i40.toNat default))] fun _=>rfl) (ai (by (try simp only [lens]); omega:(out++[(F66 (lines.getD i40.toNat default))]).length*16≤140737488355328) (ai (iok (i40+1) (by first | omega | (simp only [lens,ib] at*<;> omega))) (bk40_0 lines i0 m0 (out++[(F66 (lines.getD i40.toNat default))]) (i40+1) hl0 (Qe hI0 (condT h2 rfl)) (by refine ⟨?_,?_,?_⟩ <;> first | omega | (simp only [lens,ib] at*<;> omega)))))))) (fun h2 _=>have hD0_3:Qyt lines=Lp.done (out,i40):=Qk hI0 (condF h2 rfl); fi40 lines out (finD hD0_3 rfl))) (i0.1-1) i0.2.1 i0.2.2 (un40_0 lines i0 hi0)))) (by kernel_rfl)
def Xp (lines:List ByteArray) (word:ByteArray):(List (List ByteArray)×Int)→Lp (List (List ByteArray)×Int) (List (List ByteArray)):=fun (out,v12) =>
 bif (decide (v12<(lines.length:Int))) then (bif (((F52 (lines.getD v12.toNat default) ⟨#[32]⟩).getD (Int.toNat 0) default).toList==word.toList) then (.next ((out++[(F52 (lines.getD v12.toNat default) ⟨#[32]⟩)]),(v12+1))) else (.next (out,(v12+1)))) else (.done (out,v12))
def F34 (lines:List ByteArray) (word:ByteArray):List (List ByteArray) :=
 (runL (Xp lines word) (((lines.length:Int)-0).toNat+1) (([]:List (List ByteArray)),0)).fin (fun r=>r) (fun (out,v12)=>out)
abbrev Ek (lines:List ByteArray):Nat×(List (List ByteArray)×Int):=((((lines.length:Int)-0).toNat+1),(([]:List (List ByteArray)),0))
abbrev Qls (lines:List ByteArray) (m39:Nat) (out:List (List ByteArray)) (v12:Int):Prop:=Int.toNat ((lines.length:Int)-v12)<m39∧(out.length:Int)≤v12∧(0:Int)≤v12
abbrev Qvk (lines:List ByteArray) (word:ByteArray):Lp (List (List ByteArray)×Int) (List (List ByteArray)):=LpX (Xp lines word) (Ek lines)
abbrev Tn (lines:List ByteArray) (word:ByteArray) (i:Nat×(List (List ByteArray)×Int)):Prop:=LpJ (Xp lines word) (Ek lines) i (Qls lines i.1 i.2.1 i.2.2)
abbrev Qxp (lines:List ByteArray) (word:ByteArray) (i:Nat×(List (List ByteArray)×Int)) (m39:Nat) (out:List (List ByteArray)) (v12:Int):Prop:=LpH (Xp lines word) (Ek lines) i m39 (out,v12) (Qls lines (m39+1) out v12)
abbrev Qyf (lines:List ByteArray) (word:ByteArray) (out:List (List ByteArray)) (v12:Int) (out_:List (List ByteArray)) (v12_:Int) (K39:Prop):Prop:=(Rf (.string word))∧(Rf (.int .i64 (lines.length:Int)))∧((.int .i64 v12:Value)=.int .i64 v12_)∧(Imp (.l 1 (eL 1 eStr) out) (.l 1 (eL 1 eStr) out_))∧(Im (.l 1 eStr lines))∧K39
theorem un34_0 (lines:List ByteArray) (word:ByteArray) (i:Nat×(List (List ByteArray)×Int)) (h:Tn lines word i):Qxp lines word i (i.1-1) i.2.1 i.2.2:=⟨hd1 h.1 h.2.1,hd3 h.2.1,hd2 h.2.1,h.2.2⟩
theorem Ucm (lines:List ByteArray) (word:ByteArray) (i:Nat×(List (List ByteArray)×Int)) (m39:Nat) (out:List (List ByteArray)) (v12:Int) (hl:m39<i.1) (e:runL (Xp lines word) m39 (out,v12)=Qvk lines word) (h:Qls lines m39 out v12):∃ j:Nat×(List (List ByteArray)×Int),Qyf lines word out v12 j.2.1 j.2.2 (Tn lines word j∧j.1<i.1):=⟨(m39,(out,v12)),rfl,rfl,rfl,Imp.refl _,Imp.refl _,⟨e,h⟩,hl⟩
theorem en34_0 (lines:List ByteArray) (word:ByteArray) (h:(([]:List (List ByteArray)).length:Int)≤0∧(0:Int)≤0):Qyf lines word ([]:List (List ByteArray)) 0 ([]:List (List ByteArray)) 0 (Tn lines word (Ek lines)):=⟨rfl,rfl,rfl,Imp.refl _,Imp.refl _,rfl,Nat.lt_succ_self _,h⟩
theorem fi34 (lines:List ByteArray) (word:ByteArray) (r:List (List ByteArray)) (hF:r=(F34 lines word)):(Imp (.l 1 (eL 1 eStr) r) (.l 1 (eL 1 eStr) (F34 lines word)))∧True:=by cases hF; exact ⟨Imp.refl _,trivial⟩
def S34 (R:List (List ByteArray)) (lines:List ByteArray) (word:ByteArray):Spec:=⟨[.r (.c (.l 1 eStr lines)),.r (.c (.v (.string word)))],.ow (.l 1 (eL 1 eStr) R),lines.length≤1048576∧(∀ k:Nat,(lines.getD k default).size≤1048576)⟩
theorem ok34 (lines:List ByteArray) (word:ByteArray):(S34 (F34 lines word) lines word).ok Tryz.prog 34 :=
 Qn mixed (fn:=Tryz.f34) (ct:=.seqk [(0,0)] .no (.seq (.reg [(0,.dat (.l 1 (eL 1 eStr) ([]:List (List ByteArray))))]) (.seq (.seqk [(5,0),(10,0)] .no (.blk (.loop (ι:=Nat×(List (List ByteArray)×Int)) (fun i=>(fun (out:List (List ByteArray)) (v12:Int)=>(⟨[(1,some (.v (.string word))),(5,some (.h 0 0)),(10,some (.h 1 0)),(11,some (.v (vI (lines.length:Int)))),(12,some (.v (vI v12)))],[(0,some (.own 0 (.l 1 (eL 1 eStr) out))),(1,some (.shr none (.l 1 eStr lines)))],2⟩:St)) i.2.1 i.2.2) (Tn lines word) (fun i=>i.1) (Ek lines) (fun i=>(fun (out:List (List ByteArray)) (v12:Int)=>(.seq .no (.seq (.cond .no .no) (.seq (.blk (.seq .no (.seq (.reg [(1,kh52 (lines.getD v12.toNat default) w15_)]) (.seq .no (.cond (.reg [(3,.dat (.l 1 (eL 1 eStr) (out++[(F52 (lines.getD v12.toNat default) w15_)])))]) .no))))) (.reg [(0,.bnd)]))))) i.2.1 i.2.2)))) (.seq .no .no)))) Tryz.func34 (fun (hp:lines.length≤1048576∧(∀ k:Nat,(lines.getD k default).size≤1048576))=>have hpre0:=hp.1; have hpre1:=hp.2; kn lines fun _=>ai (bokr 1 (eL 1 eStr) ([]:List (List ByteArray)) fun _=>rfl) (kn ([]:List (List ByteArray)) fun _=>kn lines fun _=>ai (en34_0 lines word (by refine ⟨?_,?_⟩ <;> first | omega | (simp only [lens,ib] at*<;> omega))) (fun (i0:Nat×(List (List ByteArray)×Int)) (hi0:Tn lines word i0)=>(fun (m0:Nat) (out:List (List ByteArray)) (v12:Int) (hh0:Qxp lines word i0 m0 out v12)=>have hI0:=hh0.1; have hl0:=hh0.2.1; have _:=hh0.2.2.1; have _:=hh0.2.2.2; ifd (v12<(lines.length:Int)) (fun h2 _=>ai (by first | omega | (simp only [lens,ib] at*<;> omega):ib v12 lines) (kc52 (lines.getD v12.toNat default) w15_ (by first | decide | (have hz:=hpre1 v12.toNat; omega)) (by first | decide | (have hz:=hpre1 v12.toNat; omega)) (by first | decide | (have hz:=hpre1 v12.toNat; omega)) (by first | decide | (have hz:=hpre1 v12.toNat; omega)) (fun gv3 gv4=>ai (by first | omega | (simp only [lens,ib] at*<;> omega):ib 0 (F52 (lines.getD v12.toNat default) w15_)) (ifb (((F52 (lines.getD v12.toNat default) w15_).getD (Int.toNat 0) default).toList==word.toList) (fun h5=>ai (appr 1 (eL 1 eStr) out [(F52 (lines.getD v12.toNat default) w15_)] fun _=>rfl) (ai (by (try simp only [lens]); omega:(out++[(F52 (lines.getD v12.toNat default) w15_)]).length*24≤140737488355328) (ai (iok (v12+1) (by first | omega | (simp only [lens,ib] at*<;> omega))) (Ucm lines word i0 m0 (out++[(F52 (lines.getD v12.toNat default) w15_)]) (v12+1) hl0 (Qe hI0 (condT h2 (condT h5 rfl))) (by refine ⟨?_,?_,?_⟩ <;> first | omega | (simp only [lens,ib] at*<;> omega)))))) (fun h5=>ai (iok (v12+1) (by first | omega | (simp only [lens,ib] at*<;> omega))) (Ucm lines word i0 m0 out (v12+1) hl0 (Qe hI0 (condT h2 (condF h5 rfl))) (by refine ⟨?_,?_,?_⟩ <;> first | omega | (simp only [lens,ib] at*<;> omega)))))))) (fun h2 _=>have hD0_6:Qvk lines word=Lp.done (out,v12):=Qk hI0 (condF h2 rfl); fi34 lines word out (finD hD0_6 rfl))) (i0.1-1) i0.2.1 i0.2.2 (un34_0 lines word i0 hi0)))) (by kernel_rfl)
theorem as40 (lines:List ByteArray):F40 lines=(lines.map F66):=by
 unfold F40
 have:=Ye lines (fun (s:List ByteArray) x=>s++[F66 x]) (fun s i=>(s,i)) (Xr lines) (fun i s hi=>by
  simp only [Xr,ltD hi,cond_true,nn]; rfl) (fun s=>by simp only [Xr,geD,cond_false]) (fun r=>r) (fun (out,i40)=>out) []
 refine this.trans ?_
 rw [Zt,List.nil_append]
def Qa (lines:List ByteArray) (word:ByteArray):List (List ByteArray):=(lines.map fun l=>Qw l (⟨#[32]⟩:ByteArray)).filter fun w=>(w.getD 0 default).data.toList==word.data.toList
theorem as34 (lines:List ByteArray) (word:ByteArray):F34 lines word=(Qa lines word):=by
 unfold F34
 have:=Ye lines (fun (s:List (List ByteArray)) x=>bif ((Qw x (⟨#[32]⟩:ByteArray)).getD 0 default).data.toList==word.data.toList then s++[Qw x (⟨#[32]⟩:ByteArray)] else s) (fun s i=>(s,i)) (Xp lines word) (fun i s hi=>by
  simp only [Xp,ltD hi,cond_true,nn,Qz,F52]
  show (bif ((Qw (lines.getD i default) (⟨#[32]⟩:ByteArray)).getD 0 default).data.toList==word.data.toList then _ else _)=_
  cases (((Qw (lines.getD i default) (⟨#[32]⟩:ByteArray)).getD 0 default).data.toList==word.data.toList) <;> rfl) (fun s=>by simp only [Xp,geD,cond_false]) (fun r=>r) (fun (out,v12)=>out) []
 refine this.trans ?_
 have h:=Lw (fun x=>((Qw x (⟨#[32]⟩:ByteArray)).getD 0 default).data.toList==word.data.toList) (fun x=>Qw x (⟨#[32]⟩:ByteArray)) lines []
 rw [List.nil_append] at h
 refine h.trans ?_
 unfold Qa
 rw [List.filter_map]
 rfl
def T40 (R:List ByteArray) (lines:List ByteArray):Spec:=⟨(S40 R lines).args,(S40 R lines).res,lines.length≤1048576∧(∀ k:Nat,(lines.getD k default).size≤1048576)⟩
theorem oa40 (lines:List ByteArray):(T40 (lines.map F66) lines).ok Tryz.prog 40:=by
 intro hp; have h:=ok40 lines hp; rw [as40 lines] at h; exact h
def T34 (R:List (List ByteArray)) (lines:List ByteArray) (word:ByteArray):Spec:=⟨(S34 R lines word).args,(S34 R lines word).res,lines.length≤1048576∧(∀ k:Nat,(lines.getD k default).size≤1048576)⟩
theorem oa34 (lines:List ByteArray) (word:ByteArray):(T34 (Qa lines word) lines word).ok Tryz.prog 34:=by
 intro hp; have h:=ok34 lines word hp; rw [as34 lines word] at h; exact h
def F87 (l:ByteArray):Bool :=
 (!(F88 l))
def S87 (l:ByteArray):Spec:=⟨[.r (.c (.v (.string l)))],.v (.bool (F87 l)),l.size≤1048576⟩
theorem ok87 (l:ByteArray):(S87 l).ok Tryz.prog 87 false :=
 Qn mixed (fn:=Tryz.f87) (ct:=.seq .no (.seq (.reg [(1,kh88 l)]) .no)) Tryz.func87 (fun (hpre0:l.size≤1048576)=>kc88 l (by omega) (fiB (!(F88 l)) (F87 l) rfl)) (by kernel_rfl)
theorem kc89 (line:ByteArray) {K_:Prop} (p0_:line.size≤1048576) (k_:K_):(line.size≤1048576)∧(Imp (.v (.string line)) (.v (.string line)))∧K_:=⟨p0_,Imp.refl _,k_⟩
abbrev kh89 (line:ByteArray):Hint false Tryz.prog:=.call 89 (S89 line) (ok89 line) none
def Bb (lines:List ByteArray):(Int×ML Bool)→Lp (Int×ML Bool) Int:=fun (v31,ms) =>
 bif (decide (v31<(lines.length:Int))) then (.next ((v31+1),(putM ms (F89 (lines.getD v31.toNat default)) true))) else (.done (v31,ms))
def Qbw (lines:List ByteArray):Lp (ML Bool) Int :=
 (runL (Bb lines) (((lines.length:Int)-0).toNat+1) (0,([]:ML Bool))).fin Lp.ret (fun (v31,ms)=>.done ms)
def Po (lines:List ByteArray):Int→Lp Int Int:=fun i40 =>
 bif (decide (i40<(lines.length:Int))) then (bif (!(Op.bytesLess (lines.getD (i40-1).toNat default).toList (lines.getD i40.toNat default).toList)) then (.ret 3) else (.next (i40+1))) else (.done i40)
def F69 (lines:List ByteArray):Int :=
 bif (decide ((lines.length:Int)>16)) then 1 else (bif (lines.any (fun (x0:ByteArray)=>F87 x0)) then 2 else ((runL (Po lines) (((lines.length:Int)-1).toNat+1) 1).fin (fun r=>r) (fun i40=>(Qbw lines).fin (fun r=>r) (fun keys=>bif (decide ((keys.length:Int)<(lines.length:Int))) then 4 else 0))))
abbrev Tv (lines:List ByteArray):Nat×(Int×ML Bool):=((((lines.length:Int)-0).toNat+1),(0,([]:ML Bool)))
abbrev Qlo (lines:List ByteArray) (m39:Nat) (v31:Int) (ms:ML Bool):Prop:=Int.toNat ((lines.length:Int)-v31)<m39∧(0:Int)≤v31
abbrev Ubw (lines:List ByteArray):Lp (Int×ML Bool) Int:=LpX (Bb lines) (Tv lines)
abbrev Qdb (lines:List ByteArray) (i:Nat×(Int×ML Bool)):Prop:=LpJ (Bb lines) (Tv lines) i (Qlo lines i.1 i.2.1 i.2.2)
abbrev Qzr (lines:List ByteArray) (i:Nat×(Int×ML Bool)) (m39:Nat) (v31:Int) (ms:ML Bool):Prop:=LpH (Bb lines) (Tv lines) i m39 (v31,ms) (Qlo lines (m39+1) v31 ms)
abbrev Qup (lines:List ByteArray) (v31:Int) (ms:ML Bool) (v31_:Int) (ms_:ML Bool) (K39:Prop):Prop:=(Rf (.int .i64 (lines.length:Int)))∧((.int .i64 v31:Value)=.int .i64 v31_)∧(Im (.l 1 eStr lines))∧(Imp (.x (MX Value.bool ms)) (.x (MX Value.bool ms_)))∧K39
theorem un69_1 (lines:List ByteArray) (i:Nat×(Int×ML Bool)) (h:Qdb lines i):Qzr lines i (i.1-1) i.2.1 i.2.2:=⟨hd1 h.1 h.2.1,hd3 h.2.1,hd2 h.2.1,h.2.2⟩
theorem bk69_1 (lines:List ByteArray) (i:Nat×(Int×ML Bool)) (m39:Nat) (v31:Int) (ms:ML Bool) (hl:m39<i.1) (e:runL (Bb lines) m39 (v31,ms)=Ubw lines) (h:Qlo lines m39 v31 ms):∃ j:Nat×(Int×ML Bool),Qup lines v31 ms j.2.1 j.2.2 (Qdb lines j∧j.1<i.1):=⟨(m39,(v31,ms)),rfl,rfl,Imp.refl _,Imp.refl _,⟨e,h⟩,hl⟩
theorem en69_1 (lines:List ByteArray) (h:(0:Int)≤0):Qup lines 0 ([]:ML Bool) 0 ([]:ML Bool) (Qdb lines (Tv lines)):=⟨rfl,rfl,Imp.refl _,Imp.refl _,rfl,Nat.lt_succ_self _,h⟩
abbrev Qmn (lines:List ByteArray) (j:ML Bool):Prop:=(Qbw lines)=Lp.done j
theorem jn69_0 (lines:List ByteArray) (keys:ML Bool) (e:(Qbw lines)=Lp.done keys):∃ j:ML Bool,(Imp (.l 1 eStr lines) (.l 1 eStr lines))∧(Imp (.x (MX Value.bool keys)) (.x (MX Value.bool j)))∧Qmn lines j:=⟨keys,Imp.refl _,Imp.refl _,e⟩
abbrev Qbt (lines:List ByteArray):Nat×Int:=((((lines.length:Int)-1).toNat+1),1)
abbrev Qlq (lines:List ByteArray) (m39:Nat) (i40:Int):Prop:=Int.toNat ((lines.length:Int)-i40)<m39∧(1:Int)≤i40∧(0:Int)≤i40
abbrev Qzi (lines:List ByteArray):Lp Int Int:=LpX (Po lines) (Qbt lines)
abbrev Tg (lines:List ByteArray) (i:Nat×Int):Prop:=LpJ (Po lines) (Qbt lines) i (Qlq lines i.1 i.2)
abbrev Uai (lines:List ByteArray) (i:Nat×Int) (m39:Nat) (i40:Int):Prop:=LpH (Po lines) (Qbt lines) i m39 i40 (Qlq lines (m39+1) i40)
abbrev Qvj (lines:List ByteArray) (i40:Int) (i40_:Int) (K39:Prop):Prop:=((.int .i64 i40:Value)=.int .i64 i40_)∧(Im (.l 1 eStr lines))∧K39
theorem un69_0 (lines:List ByteArray) (i:Nat×Int) (h:Tg lines i):Uai lines i (i.1-1) i.2:=⟨hd1 h.1 h.2.1,hd3 h.2.1,hd2 h.2.1,h.2.2⟩
theorem bk69_0 (lines:List ByteArray) (i:Nat×Int) (m39:Nat) (i40:Int) (hl:m39<i.1) (e:runL (Po lines) m39 i40=Qzi lines) (h:Qlq lines m39 i40):∃ j:Nat×Int,Qvj lines i40 j.2 (Tg lines j∧j.1<i.1):=⟨(m39,i40),rfl,Imp.refl _,⟨e,h⟩,hl⟩
theorem en69_0 (lines:List ByteArray) (h:(1:Int)≤1∧(0:Int)≤1):Qvj lines 1 1 (Tg lines (Qbt lines)):=⟨rfl,Imp.refl _,rfl,Nat.lt_succ_self _,h⟩
def S69 (lines:List ByteArray):Spec:=⟨[.r (.c (.l 1 eStr lines))],.v (vI (F69 lines)),(∀ k:Nat,(lines.getD k default).size≤1048576)⟩
theorem ok69 (lines:List ByteArray):(S69 lines).ok Tryz.prog 69 false :=
 Qn mixed (fn:=Tryz.f69) (ct:=.seqk [(0,0)] .no (.seq (.seq .no (.cond (.seq .no .no) .no)) (.seq (.seq (.reg [(1,.call 86 (S86 (lines.any (fun (x0:ByteArray)=>F87 x0)) lines (fun (x0:ByteArray)=>F87 x0) (fun (x0:ByteArray)=>x0.size≤1048576)) (oa86 lines (fun (x0:ByteArray)=>F87 x0) (fun (x0:ByteArray)=>x0.size≤1048576)) (some ⟨false,87,Ze (fun (x0:ByteArray)=>x0.size≤1048576) (fun (x0:ByteArray)=>F87 x0),[],rfl,True,fun i=>Xv (ok87 i)⟩))]) (.cond (.seq .no .no) .no)) (.seq (.seqk [(0,0)] .no (.blk (.loop (ι:=Nat×Int) (fun i=>(fun (i40:Int)=>(⟨[(0,some (.h 0 0)),(3,some (.v (vI i40)))],[(0,some (.shr none (.l 1 eStr lines)))],1⟩:St)) i.2) (Tg lines) (fun i=>i.1) (Qbt lines) (fun i=>(fun (i40:Int)=>(.seq (.seq .no (.cond .no .no)) (.seq (.blk (.seq (.reg [(2,.bnd)]) (.cond (.seq .no .no) .no))) (.reg [(1,.bnd)])))) i.2)))) (.seq (.reg [(0,.mpm Value.bool)]) (.cut (ι:=ML Bool) (fun j=>(fun (keys:ML Bool)=>(⟨[(0,some (.h 0 0)),(4,some (.h 1 0))],[(0,some (.shr none (.l 1 eStr lines))),(1,some (.own 1 (.x (MX Value.bool keys))))],2⟩:St)) j) (Qmn lines) (.seqk [(29,0)] .no (.blk (.loop (ι:=Nat×(Int×ML Bool)) (fun i=>(fun (v31:Int) (ms:ML Bool)=>(⟨[(0,some (.h 0 0)),(4,some (.h 1 0)),(29,some (.h 0 0)),(30,some (.v (vI (lines.length:Int)))),(31,some (.v (vI v31)))],[(0,some (.shr none (.l 1 eStr lines))),(1,some (.own 1 (.x (MX Value.bool ms))))],2⟩:St)) i.2.1 i.2.2) (Qdb lines) (fun i=>i.1) (Tv lines) (fun i=>(fun (v31:Int) (ms:ML Bool)=>(.seq .no (.seq (.cond .no .no) (.seq (.blk (.seq .no (.reg [(2,kh89 (lines.getD v31.toNat default)),(3,.mpu Value.bool ms true)]))) (.reg [(0,.bnd)]))))) i.2.1 i.2.2)))) (fun j=>(fun (keys:ML Bool)=>(.seq (.seq (.reg [(1,.mpn Value.bool keys)]) (.cond (.seq .no .no) .no)) (.seq .no .no))) j))))))) Tryz.func69 (fun (hpre0:∀ k:Nat,(lines.getD k default).size≤1048576)=>kn lines fun _=>ifd ((lines.length:Int)>16) (fun h1 _=>fiI 1 (F69 lines) (condT h1 rfl)) (fun h1 _=>ai (by first | assumption | exact hpre0 _ | exact fun k _=>hpre0 k | (intros; exact trivial) | (intros; exact Nat.zero_le _):∀ k:Nat,k<lines.length→(fun (x0:ByteArray)=>x0.size≤1048576) (lines.getD k default)) (ai (Imp.refl (.l 1 eStr lines)) (ai (Eq.refl (Ze (fun (x0:ByteArray)=>x0.size≤1048576) (fun (x0:ByteArray)=>F87 x0))) (ai trivial (ifb (lines.any (fun (x0:ByteArray)=>F87 x0)) (fun h2=>fiI 2 (F69 lines) (condF h1 (condT h2 rfl))) (fun h2=>kn lines fun _=>ai (en69_0 lines (by refine ⟨?_,?_⟩ <;> omega)) (fun (i0:Nat×Int) (hi0:Tg lines i0)=>(fun (m0:Nat) (i40:Int) (hh0:Uai lines i0 m0 i40)=>have hI0:=hh0.1; have hl0:=hh0.2.1; have _:=hh0.2.2.1; have _:=hh0.2.2.2; ifd (i40<(lines.length:Int)) (fun h4 _=>ai (iok (i40-1) (by omega)) (ai (by omega:ib (i40-1) lines) (ai (by omega:ib i40 lines) (ifb (!(Op.bytesLess (lines.getD (i40-1).toNat default).toList (lines.getD i40.toNat default).toList)) (fun h5=>fiI 3 (F69 lines) (condF h1 (condF h2 (finR (Qr hI0 (condT h4 (condT h5 rfl))) rfl)))) (fun h5=>ai (iok (i40+1) (by omega)) (bk69_0 lines i0 m0 (i40+1) hl0 (Qe hI0 (condT h4 (condF h5 rfl))) (by refine ⟨?_,?_,?_⟩ <;> omega))))))) (fun h4 _=>have hD0_6:Qzi lines=Lp.done i40:=Qk hI0 (condF h4 rfl); ai (kn lines fun _=>ai (en69_1 lines (by omega)) (fun (i1:Nat×(Int×ML Bool)) (hi1:Qdb lines i1)=>(fun (m1:Nat) (v31:Int) (ms:ML Bool) (hh1:Qzr lines i1 m1 v31 ms)=>have hI1:=hh1.1; have hl1:=hh1.2.1; have _:=hh1.2.2.1; have _:=hh1.2.2.2; ifd (v31<(lines.length:Int)) (fun h8 _=>ai (by omega:ib v31 lines) (kc89 (lines.getD v31.toNat default) (by first | omega | exact hpre0 _ | (intros; exact trivial) | (intros; exact Nat.zero_le _)) (ai (Eq.refl (MX Value.bool ms)) (ai (Eq.refl (Value.bool true)) (ai (iok (v31+1) (by omega)) (bk69_1 lines i1 m1 (v31+1) (putM ms (F89 (lines.getD v31.toNat default)) true) hl1 (Qe hI1 (condT h8 rfl)) (by refine ⟨?_,?_⟩ <;> omega))))))) (fun h8 _=>have hD1_9:Ubw lines=Lp.done (v31,ms):=Qk hI1 (condF h8 rfl); jn69_0 lines ms (Eq.symm (finD hD1_9 rfl)) )) (i1.1-1) i1.2.1 i1.2.2 (un69_1 lines i1 hi1))) (fun (j:ML Bool) (hj:Qmn lines j)=>(fun (keys:ML Bool) (hJ0_10:(Qbw lines)=Lp.done keys)=>ai (Eq.refl (MX Value.bool keys)) (ifd ((keys.length:Int)<(lines.length:Int)) (fun h11 _=>fiI 4 (F69 lines) (condF h1 (condF h2 (finD hD0_6 (finD hJ0_10 (condT h11 rfl)))))) (fun h11 _=>fiI 0 (F69 lines) (condF h1 (condF h2 (finD hD0_6 (finD hJ0_10 (condF h11 rfl)))))))) j hj))) (i0.1-1) i0.2 (un69_0 lines i0 hi0))))))))) (by kernel_rfl)
theorem kc40a (lines:List ByteArray) {K_:Prop} (p0_:lines.length≤1048576) (p1_:∀ k:Nat,(lines.getD k default).size≤1048576) (k_:K_):(lines.length≤1048576∧(∀ k:Nat,(lines.getD k default).size≤1048576))∧(Imp (.l 1 eStr lines) (.l 1 eStr lines))∧K_:=⟨⟨p0_,p1_⟩,Imp.refl _,k_⟩
abbrev kh40a (lines:List ByteArray):Hint true Tryz.prog:=.call 40 (T40 (lines.map F66) lines) (oa40 lines) none
def Zu (lines:List ByteArray):Int→Lp Int Int:=fun i42 =>
 bif (decide (i42<(lines.length:Int))) then (bif (F41 ((lines.map F66).take i42.toNat) ((lines.map F66).getD i42.toNat default)) then (.ret 4) else (.next (i42+1))) else (.done i42)
def Ja (lines:List ByteArray):Int→Lp Int Int:=fun i41 =>
 bif (decide (i41<(lines.length:Int))) then (bif (!(Op.bytesLess (lines.getD (i41-1).toNat default).toList (lines.getD i41.toNat default).toList)) then (.ret 3) else (.next (i41+1))) else (.done i41)
def Kc (lines:List ByteArray):Int→Lp Int Int:=fun i40 =>
 bif (decide (i40<(lines.length:Int))) then (bif (((lines.map F66).getD i40.toNat default).toList==(⟨#[]⟩:ByteArray).toList) then (.ret 2) else (.next (i40+1))) else (.done i40)
def F22 (lines:List ByteArray):Int :=
 bif (decide ((lines.length:Int)>16)) then 1 else ((runL (Kc lines) (((lines.length:Int)-0).toNat+1) 0).fin (fun r=>r) (fun i40=>(runL (Ja lines) (((lines.length:Int)-1).toNat+1) 1).fin (fun r=>r) (fun i41=>(runL (Zu lines) (((lines.length:Int)-0).toNat+1) 0).fin (fun r=>r) (fun i42=>0))))
abbrev Qbf (lines:List ByteArray):Nat×Int:=((((lines.length:Int)-0).toNat+1),0)
abbrev Qns (lines:List ByteArray) (m39:Nat) (i42:Int):Prop:=Int.toNat ((lines.length:Int)-i42)<m39∧(0:Int)≤i42
abbrev Qys (lines:List ByteArray):Lp Int Int:=LpX (Zu lines) (Qbf lines)
abbrev Tz (lines:List ByteArray) (i:Nat×Int):Prop:=LpJ (Zu lines) (Qbf lines) i (Qns lines i.1 i.2)
abbrev Qzz (lines:List ByteArray) (i:Nat×Int) (m39:Nat) (i42:Int):Prop:=LpH (Zu lines) (Qbf lines) i m39 i42 (Qns lines (m39+1) i42)
abbrev Uck (lines:List ByteArray) (i42:Int) (i42_:Int) (K39:Prop):Prop:=((.int .i64 i42:Value)=.int .i64 i42_)∧(Im (.l 1 eStr lines))∧(Im (.l 1 eStr (lines.map F66)))∧K39
theorem un22_2 (lines:List ByteArray) (i:Nat×Int) (h:Tz lines i):Qzz lines i (i.1-1) i.2:=⟨hd1 h.1 h.2.1,hd3 h.2.1,hd2 h.2.1,h.2.2⟩
theorem bk22_2 (lines:List ByteArray) (i:Nat×Int) (m39:Nat) (i42:Int) (hl:m39<i.1) (e:runL (Zu lines) m39 i42=Qys lines) (h:Qns lines m39 i42):∃ j:Nat×Int,Uck lines i42 j.2 (Tz lines j∧j.1<i.1):=⟨(m39,i42),rfl,Imp.refl _,Imp.refl _,⟨e,h⟩,hl⟩
theorem en22_2 (lines:List ByteArray) (h:(0:Int)≤0):Uck lines 0 0 (Tz lines (Qbf lines)):=⟨rfl,Imp.refl _,Imp.refl _,rfl,Nat.lt_succ_self _,h⟩
abbrev Tu (lines:List ByteArray):Nat×Int:=((((lines.length:Int)-1).toNat+1),1)
abbrev Qkt (lines:List ByteArray) (m39:Nat) (i41:Int):Prop:=Int.toNat ((lines.length:Int)-i41)<m39∧(1:Int)≤i41∧(0:Int)≤i41
abbrev Ucl (lines:List ByteArray):Lp Int Int:=LpX (Ja lines) (Tu lines)
abbrev Tr (lines:List ByteArray) (i:Nat×Int):Prop:=LpJ (Ja lines) (Tu lines) i (Qkt lines i.1 i.2)
abbrev Quy (lines:List ByteArray) (i:Nat×Int) (m39:Nat) (i41:Int):Prop:=LpH (Ja lines) (Tu lines) i m39 i41 (Qkt lines (m39+1) i41)
abbrev Qxg (lines:List ByteArray) (i41:Int) (i41_:Int) (K39:Prop):Prop:=((.int .i64 i41:Value)=.int .i64 i41_)∧(Im (.l 1 eStr lines))∧(Im (.l 1 eStr (lines.map F66)))∧K39
theorem un22_1 (lines:List ByteArray) (i:Nat×Int) (h:Tr lines i):Quy lines i (i.1-1) i.2:=⟨hd1 h.1 h.2.1,hd3 h.2.1,hd2 h.2.1,h.2.2⟩
theorem bk22_1 (lines:List ByteArray) (i:Nat×Int) (m39:Nat) (i41:Int) (hl:m39<i.1) (e:runL (Ja lines) m39 i41=Ucl lines) (h:Qkt lines m39 i41):∃ j:Nat×Int,Qxg lines i41 j.2 (Tr lines j∧j.1<i.1):=⟨(m39,i41),rfl,Imp.refl _,Imp.refl _,⟨e,h⟩,hl⟩
theorem en22_1 (lines:List ByteArray) (h:(1:Int)≤1∧(0:Int)≤1):Qxg lines 1 1 (Tr lines (Tu lines)):=⟨rfl,Imp.refl _,Imp.refl _,rfl,Nat.lt_succ_self _,h⟩
abbrev En (lines:List ByteArray):Nat×Int:=((((lines.length:Int)-0).toNat+1),0)
abbrev Qnp (lines:List ByteArray) (m39:Nat) (i40:Int):Prop:=Int.toNat ((lines.length:Int)-i40)<m39∧(0:Int)≤i40
abbrev Qwd (lines:List ByteArray):Lp Int Int:=LpX (Kc lines) (En lines)
abbrev Te (lines:List ByteArray) (i:Nat×Int):Prop:=LpJ (Kc lines) (En lines) i (Qnp lines i.1 i.2)
abbrev Ubc (lines:List ByteArray) (i:Nat×Int) (m39:Nat) (i40:Int):Prop:=LpH (Kc lines) (En lines) i m39 i40 (Qnp lines (m39+1) i40)
abbrev Ucw (lines:List ByteArray) (i40:Int) (i40_:Int) (K39:Prop):Prop:=((.int .i64 i40:Value)=.int .i64 i40_)∧(Im (.l 1 eStr lines))∧(Im (.l 1 eStr (lines.map F66)))∧K39
theorem un22_0 (lines:List ByteArray) (i:Nat×Int) (h:Te lines i):Ubc lines i (i.1-1) i.2:=⟨hd1 h.1 h.2.1,hd3 h.2.1,hd2 h.2.1,h.2.2⟩
theorem bk22_0 (lines:List ByteArray) (i:Nat×Int) (m39:Nat) (i40:Int) (hl:m39<i.1) (e:runL (Kc lines) m39 i40=Qwd lines) (h:Qnp lines m39 i40):∃ j:Nat×Int,Ucw lines i40 j.2 (Te lines j∧j.1<i.1):=⟨(m39,i40),rfl,Imp.refl _,Imp.refl _,⟨e,h⟩,hl⟩
theorem en22_0 (lines:List ByteArray) (h:(0:Int)≤0):Ucw lines 0 0 (Te lines (En lines)):=⟨rfl,Imp.refl _,Imp.refl _,rfl,Nat.lt_succ_self _,h⟩
def S22 (lines:List ByteArray):Spec:=⟨[.r (.c (.l 1 eStr lines))],.v (vI (F22 lines)),(∀ k:Nat,(lines.getD k default).size≤1048576)⟩
theorem ok22 (lines:List ByteArray):(S22 lines).ok Tryz.prog 22 :=
 Qn mixed (fn:=Tryz.f22) (ct:=.seqk [(0,0)] .no (.seq (.seq .no (.cond (.seq .no .no) .no)) (.seq (.reg [(1,kh40a lines)]) (.seq (.seqk [(0,0),(3,0)] .no (.blk (.loop (ι:=Nat×Int) (fun i=>(fun (i40:Int)=>(⟨[(0,some (.h 0 0)),(3,some (.h 1 0)),(4,some (.v (vI i40)))],[(0,some (.shr none (.l 1 eStr lines))),(1,some (.own 1 (.l 1 eStr (lines.map F66))))],2⟩:St)) i.2) (Te lines) (fun i=>i.1) (En lines) (fun i=>(fun (i40:Int)=>(.seq (.seq .no (.cond .no .no)) (.seq (.blk (.seq .no (.cond (.seq .no .no) .no))) (.reg [(1,.bnd)])))) i.2)))) (.seq (.seqk [(0,0)] .no (.blk (.loop (ι:=Nat×Int) (fun i=>(fun (i41:Int)=>(⟨[(0,some (.h 0 0)),(3,some (.h 1 0)),(5,some (.v (vI i41)))],[(0,some (.shr none (.l 1 eStr lines))),(1,some (.own 1 (.l 1 eStr (lines.map F66))))],2⟩:St)) i.2) (Tr lines) (fun i=>i.1) (Tu lines) (fun i=>(fun (i41:Int)=>(.seq (.seq .no (.cond .no .no)) (.seq (.blk (.seq (.reg [(2,.bnd)]) (.cond (.seq .no .no) .no))) (.reg [(1,.bnd)])))) i.2)))) (.seq (.seqk [(0,0),(3,0)] .no (.blk (.loop (ι:=Nat×Int) (fun i=>(fun (i42:Int)=>(⟨[(0,some (.h 0 0)),(3,some (.h 1 0)),(6,some (.v (vI i42)))],[(0,some (.shr none (.l 1 eStr lines))),(1,some (.own 1 (.l 1 eStr (lines.map F66))))],2⟩:St)) i.2) (Tz lines) (fun i=>i.1) (Qbf lines) (fun i=>(fun (i42:Int)=>(.seq (.seq .no (.cond .no .no)) (.seq (.blk (.seq (.reg [(7,kh41 ((lines.map F66).take i42.toNat) ((lines.map F66).getD i42.toNat default))]) (.cond (.seq .no .no) .no))) (.reg [(1,.bnd)])))) i.2)))) (.seq .no .no))))))) Tryz.func22 (fun (hpre0:∀ k:Nat,(lines.getD k default).size≤1048576)=>kn lines fun _=>ifd ((lines.length:Int)>16) (fun h1 _=>fiI 1 (F22 lines) (condT h1 rfl)) (fun h1 _=>kc40a lines (by first | omega | (simp only [lens,ib] at*<;> omega)) (by first | assumption | exact hpre0 _ | exact fun k _=>hpre0 k | (intros; exact trivial) | (intros; exact Nat.zero_le _)) (kn lines fun _=>kn (lines.map F66) fun _=>ai (en22_0 lines (by first | omega | (simp only [lens,ib] at*<;> omega))) (fun (i0:Nat×Int) (hi0:Te lines i0)=>(fun (m0:Nat) (i40:Int) (hh0:Ubc lines i0 m0 i40)=>have hI0:=hh0.1; have hl0:=hh0.2.1; have _:=hh0.2.2.1; have _:=hh0.2.2.2; ifd (i40<(lines.length:Int)) (fun h3 _=>ai (by first | omega | (simp only [lens,ib] at*<;> omega):ib i40 (lines.map F66)) (ifb (((lines.map F66).getD i40.toNat default).toList==w13_.toList) (fun h4=>fiI 2 (F22 lines) (condF h1 (finR (Qr hI0 (condT h3 (condT h4 rfl))) rfl))) (fun h4=>ai (iok (i40+1) (by first | omega | (simp only [lens,ib] at*<;> omega))) (bk22_0 lines i0 m0 (i40+1) hl0 (Qe hI0 (condT h3 (condF h4 rfl))) (by refine ⟨?_,?_⟩ <;> first | omega | (simp only [lens,ib] at*<;> omega)))))) (fun h3 _=>have hD0_5:Qwd lines=Lp.done i40:=Qk hI0 (condF h3 rfl); kn lines fun _=>ai (en22_1 lines (by refine ⟨?_,?_⟩ <;> first | omega | (simp only [lens,ib] at*<;> omega))) (fun (i1:Nat×Int) (hi1:Tr lines i1)=>(fun (m1:Nat) (i41:Int) (hh1:Quy lines i1 m1 i41)=>have hI1:=hh1.1; have hl1:=hh1.2.1; have _:=hh1.2.2.1; have _:=hh1.2.2.2; ifd (i41<(lines.length:Int)) (fun h7 _=>ai (iok (i41-1) (by first | omega | (simp only [lens,ib] at*<;> omega))) (ai (by first | omega | (simp only [lens,ib] at*<;> omega):ib (i41-1) lines) (ai (by first | omega | (simp only [lens,ib] at*<;> omega):ib i41 lines) (ifb (!(Op.bytesLess (lines.getD (i41-1).toNat default).toList (lines.getD i41.toNat default).toList)) (fun h8=>fiI 3 (F22 lines) (condF h1 (finD hD0_5 (finR (Qr hI1 (condT h7 (condT h8 rfl))) rfl)))) (fun h8=>ai (iok (i41+1) (by first | omega | (simp only [lens,ib] at*<;> omega))) (bk22_1 lines i1 m1 (i41+1) hl1 (Qe hI1 (condT h7 (condF h8 rfl))) (by refine ⟨?_,?_,?_⟩ <;> first | omega | (simp only [lens,ib] at*<;> omega)))))))) (fun h7 _=>have hD1_9:Ucl lines=Lp.done i41:=Qk hI1 (condF h7 rfl); kn lines fun _=>kn (lines.map F66) fun _=>ai (en22_2 lines (by first | omega | (simp only [lens,ib] at*<;> omega))) (fun (i2:Nat×Int) (hi2:Tz lines i2)=>(fun (m2:Nat) (i42:Int) (hh2:Qzz lines i2 m2 i42)=>have hI2:=hh2.1; have hl2:=hh2.2.1; have _:=hh2.2.2.1; have _:=hh2.2.2.2; ifd (i42<(lines.length:Int)) (fun h11 _=>ai (by first | omega | (simp only [lens,ib] at*<;> omega):0≤(0:Int)∧(0:Int)≤i42∧i42≤((lines.map F66).length:Int)) (ai (by first | omega | (simp only [lens,ib] at*<;> omega):ib i42 (lines.map F66)) (kc41 ((lines.map F66).take i42.toNat) ((lines.map F66).getD i42.toNat default) (ifb (F41 ((lines.map F66).take i42.toNat) ((lines.map F66).getD i42.toNat default)) (fun h12=>fiI 4 (F22 lines) (condF h1 (finD hD0_5 (finD hD1_9 (finR (Qr hI2 (condT h11 (condT h12 rfl))) rfl))))) (fun h12=>ai (iok (i42+1) (by first | omega | (simp only [lens,ib] at*<;> omega))) (bk22_2 lines i2 m2 (i42+1) hl2 (Qe hI2 (condT h11 (condF h12 rfl))) (by refine ⟨?_,?_⟩ <;> first | omega | (simp only [lens,ib] at*<;> omega)))))))) (fun h11 _=>have hD2_13:Qys lines=Lp.done i42:=Qk hI2 (condF h11 rfl); fiI 0 (F22 lines) (condF h1 (finD hD0_5 (finD hD1_9 (finD hD2_13 rfl)))))) (i2.1-1) i2.2 (un22_2 lines i2 hi2)))) (i1.1-1) i1.2 (un22_1 lines i1 hi1)))) (i0.1-1) i0.2 (un22_0 lines i0 hi0))))) (by kernel_rfl)
instance baLawful:LawfulBEq ByteArray where
 eq_of_beq h:=(Go.MapKept.bytes_beq _ _).1 h
 rfl:=(Go.MapKept.bytes_beq _ _).2 rfl
theorem Uaj (l:ByteArray) (h:F85 l=false):F66 l=(⟨#[]⟩:ByteArray):=by
 unfold F66
 rw [h]; rfl
theorem Pr (l:ByteArray):((F66 l).toList==(⟨#[]⟩:ByteArray).toList)=!F85 l:=by
 cases h:F85 l with
 | false=>rw [Uaj l h]; rw [Qgp]; rfl
 | true =>
  rw [Qz,Qz,Qle l h,Bool.not_true,beq_eq_false_iff_ne]
  have hk:=Hj l h
  have hl:=Gd _ hk.form
  have hn:=Pw _ hk.form
  have hno:=hk.no
  generalize (F42 l).1=w at hl hn hno
  match w,hl with
  | a :: r,_ =>
   have e:((keyN (((a :: r).getD 0 default).data.toList)).toNat)=(keyN (((a :: r).getD 0 default).data.toList)).toNat-1+1:=by omega
   rw [e,List.take_succ_cons,Lj,List.map_cons,Lib.join_cons]
   intro h0
   exact (hno a List.mem_cons_self).2.1 (List.append_eq_nil_iff.1 h0).1
def dupK:List ByteArray→List ByteArray→Bool
 | _,[]=>false
 | seen,s :: r=>decide (s∈seen) || dupK (seen++[s]) r
def insK (ks:List ByteArray) (s:ByteArray):List ByteArray:=if s∈ks then ks else ks++[s]
theorem Qpk:∀ (keys ks:List ByteArray),(keys.foldl insK ks).length≤ks.length+keys.length
 | [],ks=>by simp
 | s :: r,ks=>by
  rw [List.foldl_cons]
  have h:=Qpk r (insK ks s)
  have h2:(insK ks s).length≤ks.length+1:=by unfold insK; split <;> simp
  simp only [List.length_cons]; omega
theorem Qiu:∀ (keys ks seen:List ByteArray),(∀ s,s∈ks↔s∈seen)→decide ((keys.foldl insK ks).length<ks.length+keys.length)=dupK seen keys
 | [],ks,seen,_=>by simp [dupK]
 | s :: r,ks,seen,h=>by
  rw [List.foldl_cons,dupK]
  by_cases hs:s∈ks
  ·have e:insK ks s=ks:=by unfold insK; rw [if_pos hs]
   rw [e,decide_eq_true ((h s).1 hs),Bool.true_or]
   have:=Qpk r ks
   exact decide_eq_true (by simp only [List.length_cons]; omega)
  ·have e:insK ks s=ks++[s]:=by unfold insK; rw [if_neg hs]
   rw [e,decide_eq_false (fun x=>hs ((h s).2 x)),Bool.false_or,← Qiu r (ks++[s]) (seen++[s]) (fun t=>by simp [h t])]
   congr 1
   simp only [List.length_append,List.length_cons,List.length_nil]
   exact propext ⟨fun x=>by omega,fun x=>by omega⟩
theorem Qeh {α:Type}:∀ (m:ML α) (s:ByteArray) (x:α),(putM m s x).map (·.1)=insK (m.map (·.1)) s
 | [],s,x=>by simp [putM,insK]
 | p :: m,s,x=>by
  rw [putM]
  by_cases h:p.1=s
  ·rw [if_pos h]; subst h; simp [insK]
  ·rw [if_neg h,List.map_cons,Qeh m s x]
   unfold insK
   have h':¬ s=p.1:=fun e=>h e.symm
   by_cases hm:s∈m.map (·.1)
   ·rw [if_pos hm,List.map_cons,if_pos (List.mem_cons_of_mem _ hm)]
   ·rw [if_neg hm,List.map_cons,if_neg (by simp only [List.mem_cons,not_or]; exact ⟨h',hm⟩)]; rfl
theorem Qbb {α:Type} (f:ByteArray→ByteArray) (v:ByteArray→α):∀ (ls:List ByteArray) (m:ML α),(ls.foldl (fun m l=>putM m (f l) (v l)) m).map (·.1)=(ls.map f).foldl insK (m.map (·.1))
 | [],m=>rfl
 | l :: ls,m=>by
  rw [List.foldl_cons,Qbb f v ls,Qeh,List.map_cons,List.foldl_cons]
theorem Rq (ws:List ByteArray) (x:ByteArray):F41 ws x=decide (x∈ws):=by
 rw [Ev,Bool.eq_iff_iff,List.any_eq_true,decide_eq_true_eq]
 constructor
 ·rintro ⟨e,he,h⟩
  rw [Qgp,decide_eq_true_eq] at h
  exact h ▸ he
 ·exact fun h=>⟨x,h,by rw [Qgp]; exact decide_eq_true rfl⟩
theorem Qjh (keys:List ByteArray):∀ (m i:Nat),i+m=keys.length→anyF (fun k=>decide (keys.getD k default∈keys.take k)) i m=dupK (keys.take i) (keys.drop i)
 | 0,i,h=>by rw [List.drop_of_length_le (by omega)]; rfl
 | m+1,i,h=>by
  have hd:keys.drop i=keys.getD i default :: keys.drop (i+1):=by
   rw [List.drop_eq_getElem_cons (show i<keys.length by omega),List.getD_eq_getElem?_getD,List.getElem?_eq_getElem (show i<keys.length by omega)]; rfl
  rw [hd,dupK,anyF,Qjh keys m (i+1) (by omega),Nx (show i<keys.length by omega)]
theorem Qdd (f:ByteArray→ByteArray) (ls:List ByteArray) (i:Nat) (h:i<ls.length):(ls.map f).getD i default=f (ls.getD i default):=by
 rw [Kz _ (by simpa using h),Kz _ h,List.getElem_map]
theorem Qlw {α:Type} {p q:α→Bool} {xs:List α} (h:∀ x,p x=q x):xs.any p=xs.any q:=by rw [show p=q from funext h]
theorem Qej (lines:List ByteArray):F69 lines=F22 lines:=by
 unfold F69 F22
 have hkept:∀ x:ByteArray,F87 x=!F85 x:=fun x=>by unfold F87; rw [Vt]
 cases h16:decide ((lines.length:Int)>16) with
 | true=>rfl
 | false =>
 rw [cond_false,cond_false]
 have h0:=anyL lines (fun l=>!F85 l) (2:Int) (Kc lines) (fun i hi=>by
  simp only [Kc,ltD hi,cond_true,nn,Qdd _ _ _ hi,Pr]
  rfl) (by simp only [Kc,geD,cond_false]) (fun r=>r) (fun _=>(runL (Ja lines) ((Int.toNat ((lines.length:Int)-1))+1) 1).fin (fun r=>r) (fun i41=>(runL (Zu lines) ((Int.toNat ((lines.length:Int)-0))+1) 0).fin (fun r=>r) (fun i42=>0))) _ (fun _=>rfl)
 rw [h0]
 have e1:(lines.any fun x0=>F87 x0)=lines.any fun l=>!F85 l:=Qlw hkept
 rw [e1]
 cases (lines.any fun l=>!F85 l) with
 | true=>rfl
 | false =>
 rw [cond_false,cond_false]
 have e2:Po lines=Ja lines:=rfl
 rw [e2]
 congr 1
 funext i
 have h2:=Yk (Zu lines) lines.length (fun k=>decide ((lines.map F66).getD k default∈(lines.map F66).take k)) (4:Int) (fun r=>r) (0:Int) (fun i hi=>by
  simp only [Zu,ltD hi,cond_true,nn,Rq]; rfl) (by simp only [Zu,geD,cond_false]) lines.length 0 (by omega) (Int.toNat ((lines.length:Int)-0)+1) (by omega)
 rw [Qjh (lines.map F66) lines.length 0 (by simp),List.take_zero,List.drop_zero] at h2
 refine Eq.trans ?_ h2.symm
 have h3:=Ye lines (fun (m:ML Bool) l=>putM m (F66 l) true) (fun m i=>(i,m)) (Bb lines) (fun i s hi=>by
  simp only [Bb,ltD hi,cond_true,nn,Qzm]; rfl) (fun s=>by simp only [Bb,geD,cond_false]) Lp.ret (fun (v31,ms)=>Lp.done ms) ([]:ML Bool)
 have h4:Qbw lines=Lp.done (lines.foldl (fun (m:ML Bool) l=>putM m (F66 l) true) []):=h3
 rw [h4]
 show (bif decide (((lines.foldl (fun (m:ML Bool) l=>putM m (F66 l) true) []).length:Int)<(lines.length:Int)) then (4:Int) else 0)=_
 have h5:=Qiu (lines.map F66) [] [] (fun s=>Iff.rfl)
 have h6:(lines.foldl (fun (m:ML Bool) l=>putM m (F66 l) true) []).length=((lines.map F66).foldl insK []).length:=by
  have:=congrArg List.length (Qbb F66 (fun _=>true) lines [])
  rw [List.length_map] at this
  exact this
 rw [← h5,h6]
 congr 1
 simp only [List.length_nil,Nat.zero_add,List.length_map]
 exact decide_eq_decide.2 (by omega)
theorem Vp (lines:List ByteArray) (h:F22 lines=0):lines.length≤16∧∀ l∈lines,F85 l=true:=by
 unfold F22 at h
 cases h16:decide ((lines.length:Int)>16) with
 | true=>rw [h16,cond_true] at h; exact absurd h (by decide)
 | false =>
 rw [h16,cond_false] at h
 have h0:=anyL lines (fun l=>!F85 l) (2:Int) (Kc lines) (fun i hi=>by
  simp only [Kc,ltD hi,cond_true,nn,Qdd _ _ _ hi,Pr]
  rfl) (by simp only [Kc,geD,cond_false]) (fun r=>r) (fun _=>(runL (Ja lines) ((Int.toNat ((lines.length:Int)-1))+1) 1).fin (fun r=>r) (fun i41=>(runL (Zu lines) ((Int.toNat ((lines.length:Int)-0))+1) 0).fin (fun r=>r) (fun i42=>0))) _ (fun _=>rfl)
 rw [h0] at h
 cases ha:(lines.any fun l=>!F85 l) with
 | true=>rw [ha,cond_true] at h; exact absurd h (by decide)
 | false =>
  have h1:=of_decide_eq_false h16
  refine ⟨by omega,fun l hl=>?_⟩
  have:=List.any_eq_false.1 ha l hl
  cases hk:F85 l with
  | true=>rfl
  | false=>rw [hk] at this; exact absurd rfl this
theorem Bg (lines:List ByteArray) (h:F22 lines=0):lines.length≤16:=(Vp lines h).1
theorem Qbz (lines:List ByteArray) (word:ByteArray) (h:lines.length≤16):(Qa lines word).length≤16:=by
 unfold Qa
 have:=List.length_filter_le (fun w:List ByteArray=>(w.getD 0 default).data.toList==word.data.toList) (lines.map fun l=>Qw l (⟨#[32]⟩:ByteArray))
 rw [List.length_map] at this
 omega
theorem Li (l:ByteArray) (h:F85 l=true):Qw l (⟨#[32]⟩:ByteArray)=(F42 l).1:=(Hj l h).splits
theorem Qdc {lines:List ByteArray} {word:ByteArray} {w:List ByteArray} (h:F22 lines=0) (hw:w∈Qa lines word):∃ l∈lines,Udb l w∧(w.getD 0 default).data.toList=word.data.toList:=by
 obtain ⟨h1,h2⟩:=List.mem_filter.1 hw
 obtain ⟨l,hl,rfl⟩:=List.mem_map.1 h1
 have hk:=(Vp lines h).2 l hl
 refine ⟨l,hl,?_,eq_of_beq h2⟩
 rw [Li l hk]
 exact Hj l hk
theorem Ut {lines:List ByteArray} {word:ByteArray} (h:F22 lines=0) {k:Nat} (hk:k<(Qa lines word).length):Wo ((Qa lines word).getD k default)∧(((Qa lines word).getD k default).getD 0 default).data.toList=word.data.toList:=by
 obtain ⟨l,hl,h1,h2⟩:=Qdc h (Kh _ hk)
 exact ⟨h1.form,h2⟩
theorem Qkf (lines:List ByteArray) (word:ByteArray) (h:F22 lines=0) (k j:Nat):(((Qa lines word).getD k default).getD j default).size≤24:=by
 by_cases hk:k<(Qa lines word).length
 ·obtain ⟨l,hl,h1,h2⟩:=Qdc h (Kh _ hk)
  by_cases hj:j<((Qa lines word).getD k default).length
  ·exact (h1.no _ (Kh _ hj)).2.2
  ·rw [Wu _ (show ((Qa lines word).getD k default).length≤j by omega)]; exact Nat.zero_le _
 ·rw [Wu _ (show (Qa lines word).length≤k by omega)]; exact Nat.zero_le _
theorem Yq (lines:List ByteArray) (word:ByteArray) (h:F22 lines=0) (k j:Nat):(((Qa lines word).getD k default).getD j default).size≤1048576:=Nat.le_trans (Qkf lines word h k j) (by decide)
theorem Uek {w:List ByteArray} (h:Wo w) (h0:(w.getD 0 default).data.toList=[117,115,101,114]):Wq w:=by
 rcases h with h | h | h | h | h | h | h | h
 ·exact absurd (h0.symm.trans h.1) (by decide)
 ·exact h
 ·exact absurd (h0.symm.trans h.1) (by decide)
 ·exact absurd (h0.symm.trans h.1) (by decide)
 ·exact absurd (h0.symm.trans h.1) (by decide)
 ·exact absurd (h0.symm.trans h.1) (by decide)
 ·exact absurd (h0.symm.trans h.1) (by decide)
 ·exact absurd (h0.symm.trans h.1) (by decide)
theorem Ufr (lines:List ByteArray) (h:F22 lines=0):∀ k:Nat,k<(Qa lines (⟨#[117,115,101,114]⟩:ByteArray)).length→Wq ((Qa lines (⟨#[117,115,101,114]⟩:ByteArray)).getD k default):=fun k hk=>Uek (Ut h hk).1 (Ut h hk).2
theorem Rx {w:List ByteArray} (h:Wo w) (h0:(w.getD 0 default).data.toList=[112,111,114,116]):Jk w:=by
 rcases h with h | h | h | h | h | h | h | h
 ·exact absurd (h0.symm.trans h.1) (by decide)
 ·exact absurd (h0.symm.trans h.1) (by decide)
 ·exact h
 ·exact absurd (h0.symm.trans h.1) (by decide)
 ·exact absurd (h0.symm.trans h.1) (by decide)
 ·exact absurd (h0.symm.trans h.1) (by decide)
 ·exact absurd (h0.symm.trans h.1) (by decide)
 ·exact absurd (h0.symm.trans h.1) (by decide)
theorem Qrc (lines:List ByteArray) (h:F22 lines=0):∀ k:Nat,k<(Qa lines (⟨#[112,111,114,116]⟩:ByteArray)).length→Jk ((Qa lines (⟨#[112,111,114,116]⟩:ByteArray)).getD k default):=fun k hk=>Rx (Ut h hk).1 (Ut h hk).2
theorem Udn {w:List ByteArray} (h:Wo w) (h0:(w.getD 0 default).data.toList=[114,117,108,101]):Wd w:=by
 rcases h with h | h | h | h | h | h | h | h
 ·exact absurd (h0.symm.trans h.1) (by decide)
 ·exact absurd (h0.symm.trans h.1) (by decide)
 ·exact absurd (h0.symm.trans h.1) (by decide)
 ·exact h
 ·exact absurd (h0.symm.trans h.1) (by decide)
 ·exact absurd (h0.symm.trans h.1) (by decide)
 ·exact absurd (h0.symm.trans h.1) (by decide)
 ·exact absurd (h0.symm.trans h.1) (by decide)
theorem Qpo (lines:List ByteArray) (h:F22 lines=0):∀ k:Nat,k<(Qa lines (⟨#[114,117,108,101]⟩:ByteArray)).length→Wd ((Qa lines (⟨#[114,117,108,101]⟩:ByteArray)).getD k default):=fun k hk=>Udn (Ut h hk).1 (Ut h hk).2
theorem Uag {w:List ByteArray} (h:Wo w) (h0:(w.getD 0 default).data.toList=[114,111,117,116,101]):Vg w:=by
 rcases h with h | h | h | h | h | h | h | h
 ·exact absurd (h0.symm.trans h.1) (by decide)
 ·exact absurd (h0.symm.trans h.1) (by decide)
 ·exact absurd (h0.symm.trans h.1) (by decide)
 ·exact absurd (h0.symm.trans h.1) (by decide)
 ·exact h
 ·exact absurd (h0.symm.trans h.1) (by decide)
 ·exact absurd (h0.symm.trans h.1) (by decide)
 ·exact absurd (h0.symm.trans h.1) (by decide)
theorem Uax (lines:List ByteArray) (h:F22 lines=0):∀ k:Nat,k<(Qa lines (⟨#[114,111,117,116,101]⟩:ByteArray)).length→Vg ((Qa lines (⟨#[114,111,117,116,101]⟩:ByteArray)).getD k default):=fun k hk=>Uag (Ut h hk).1 (Ut h hk).2
theorem Uez {w:List ByteArray} (h:Wo w) (h0:(w.getD 0 default).data.toList=[112,101,101,114]):Wc w:=by
 rcases h with h | h | h | h | h | h | h | h
 ·exact absurd (h0.symm.trans h.1) (by decide)
 ·exact absurd (h0.symm.trans h.1) (by decide)
 ·exact absurd (h0.symm.trans h.1) (by decide)
 ·exact absurd (h0.symm.trans h.1) (by decide)
 ·exact absurd (h0.symm.trans h.1) (by decide)
 ·exact h
 ·exact absurd (h0.symm.trans h.1) (by decide)
 ·exact absurd (h0.symm.trans h.1) (by decide)
theorem Qpi (lines:List ByteArray) (h:F22 lines=0):∀ k:Nat,k<(Qa lines (⟨#[112,101,101,114]⟩:ByteArray)).length→Wc ((Qa lines (⟨#[112,101,101,114]⟩:ByteArray)).getD k default):=fun k hk=>Uez (Ut h hk).1 (Ut h hk).2
theorem Qwq {w:List ByteArray} (h:Wo w) (h0:(w.getD 0 default).data.toList=[110,97,116]):natP w:=by
 rcases h with h | h | h | h | h | h | h | h
 ·exact absurd (h0.symm.trans h.1) (by decide)
 ·exact absurd (h0.symm.trans h.1) (by decide)
 ·exact absurd (h0.symm.trans h.1) (by decide)
 ·exact absurd (h0.symm.trans h.1) (by decide)
 ·exact absurd (h0.symm.trans h.1) (by decide)
 ·exact absurd (h0.symm.trans h.1) (by decide)
 ·exact h
 ·exact absurd (h0.symm.trans h.1) (by decide)
theorem Zc (lines:List ByteArray) (h:F22 lines=0):∀ k:Nat,k<(Qa lines (⟨#[110,97,116]⟩:ByteArray)).length→natP ((Qa lines (⟨#[110,97,116]⟩:ByteArray)).getD k default):=fun k hk=>Qwq (Ut h hk).1 (Ut h hk).2
theorem Udj {w:List ByteArray} (h:Wo w) (h0:(w.getD 0 default).data.toList=[100,111,111,114]):Ug w:=by
 rcases h with h | h | h | h | h | h | h | h
 ·exact absurd (h0.symm.trans h.1) (by decide)
 ·exact absurd (h0.symm.trans h.1) (by decide)
 ·exact absurd (h0.symm.trans h.1) (by decide)
 ·exact absurd (h0.symm.trans h.1) (by decide)
 ·exact absurd (h0.symm.trans h.1) (by decide)
 ·exact absurd (h0.symm.trans h.1) (by decide)
 ·exact absurd (h0.symm.trans h.1) (by decide)
 ·exact h
theorem Uv (lines:List ByteArray) (h:F22 lines=0):∀ k:Nat,k<(Qa lines (⟨#[100,111,111,114]⟩:ByteArray)).length→Ug ((Qa lines (⟨#[100,111,111,114]⟩:ByteArray)).getD k default):=fun k hk=>Udj (Ut h hk).1 (Ut h hk).2
theorem Hf (lines:List ByteArray) (word:ByteArray) {K_:Prop} (p0_:lines.length≤1048576) (p1_:∀ k:Nat,(lines.getD k default).size≤1048576) (q0_:lines.length≤16) (k_:((Qa lines word).length≤16)→K_):(lines.length≤1048576∧(∀ k:Nat,(lines.getD k default).size≤1048576))∧(Imp (.l 1 eStr lines) (.l 1 eStr lines))∧(Imp (.v (.string word)) (.v (.string word)))∧K_:=⟨⟨p0_,p1_⟩,Imp.refl _,Imp.refl _,k_ (Qbz lines word q0_)⟩
abbrev kh34a (lines:List ByteArray) (word:ByteArray):Hint true Tryz.prog:=.call 34 (T34 (Qa lines word) lines word) (oa34 lines word) none
abbrev Vy (lines:List ByteArray) (word:ByteArray):Hint false Tryz.prog:=.call 34 (T34 (Qa lines word) lines word) ((oa34 lines word).to false) none
def Bn (lines:List ByteArray):(List Qb×Int)→Lp (List Qb×Int) (List Qb):=fun (out,v12) =>
 bif (decide (v12<((Qa lines (⟨#[112,111,114,116]⟩:ByteArray)).length:Int))) then (.next ((out++[(F100 (((Qa lines (⟨#[112,111,114,116]⟩:ByteArray)).getD (Int.toNat v12) default).getD (Int.toNat 2) default)).1]),(v12+1))) else (.done (out,v12))
def F94 (lines:List ByteArray):List Qb :=
 (runL (Bn lines) ((Int.toNat (((Qa lines (⟨#[112,111,114,116]⟩:ByteArray)).length:Int)-0))+1) (([]:List Qb),0)).fin (fun r=>r) (fun (out,v12)=>out)
abbrev Qax (lines:List ByteArray):Nat×(List Qb×Int):=(((Int.toNat (((Qa lines (⟨#[112,111,114,116]⟩:ByteArray)).length:Int)-0))+1),(([]:List Qb),0))
abbrev Qmw (lines:List ByteArray) (m39:Nat) (out:List Qb) (v12:Int):Prop:=Int.toNat (((Qa lines (⟨#[112,111,114,116]⟩:ByteArray)).length:Int)-v12)<m39∧(out.length:Int)≤v12∧(0:Int)≤v12
abbrev Quz (lines:List ByteArray):Lp (List Qb×Int) (List Qb):=LpX (Bn lines) (Qax lines)
abbrev Qcu (lines:List ByteArray) (i:Nat×(List Qb×Int)):Prop:=LpJ (Bn lines) (Qax lines) i (Qmw lines i.1 i.2.1 i.2.2)
abbrev Ucu (lines:List ByteArray) (i:Nat×(List Qb×Int)) (m39:Nat) (out:List Qb) (v12:Int):Prop:=LpH (Bn lines) (Qax lines) i m39 (out,v12) (Qmw lines (m39+1) out v12)
abbrev Qya (lines:List ByteArray) (out:List Qb) (v12:Int) (out_:List Qb) (v12_:Int) (K39:Prop):Prop:=(Rf (.int .i64 ((Qa lines (⟨#[112,111,114,116]⟩:ByteArray)).length:Int)))∧((.int .i64 v12:Value)=.int .i64 v12_)∧(Imp (.l 2 Qi out) (.l 2 Qi out_))∧(Im (.l 1 (eL 1 eStr) (Qa lines (⟨#[112,111,114,116]⟩:ByteArray))))∧K39
theorem un94_0 (lines:List ByteArray) (i:Nat×(List Qb×Int)) (h:Qcu lines i):Ucu lines i (i.1-1) i.2.1 i.2.2:=⟨hd1 h.1 h.2.1,hd3 h.2.1,hd2 h.2.1,h.2.2⟩
theorem bk94_0 (lines:List ByteArray) (i:Nat×(List Qb×Int)) (m39:Nat) (out:List Qb) (v12:Int) (hl:m39<i.1) (e:runL (Bn lines) m39 (out,v12)=Quz lines) (h:Qmw lines m39 out v12):∃ j:Nat×(List Qb×Int),Qya lines out v12 j.2.1 j.2.2 (Qcu lines j∧j.1<i.1):=⟨(m39,(out,v12)),rfl,rfl,Imp.refl _,Imp.refl _,⟨e,h⟩,hl⟩
theorem en94_0 (lines:List ByteArray) (h:(([]:List Qb).length:Int)≤0∧(0:Int)≤0):Qya lines ([]:List Qb) 0 ([]:List Qb) 0 (Qcu lines (Qax lines)):=⟨rfl,rfl,Imp.refl _,Imp.refl _,rfl,Nat.lt_succ_self _,h⟩
theorem fi94 (lines:List ByteArray) (r:List Qb) (hF:r=(F94 lines)):(Imp (.l 2 Qi r) (.l 2 Qi (F94 lines)))∧True:=by cases hF; exact ⟨Imp.refl _,trivial⟩
def S94 (R:List Qb) (lines:List ByteArray):Spec:=⟨[.r (.c (.l 1 eStr lines))],.ow (.l 2 Qi R),F22 lines=0∧lines.length≤16∧(∀ k:Nat,(lines.getD k default).size≤1048576)⟩
theorem ok94 (lines:List ByteArray):(S94 (F94 lines) lines).ok Tryz.prog 94 false :=
 Qn mixed (fn:=Tryz.f94) (ct:=.seqk [(0,0)] .no (.seq (.reg [(0,.dat (.l 2 Qi ([]:List Qb)))]) (.seq (.seqk [(3,0),(10,0)] (.reg [(1,Vy lines (⟨#[112,111,114,116]⟩:ByteArray))]) (.blk (.loop (ι:=Nat×(List Qb×Int)) (fun i=>(fun (out:List Qb) (v12:Int)=>(⟨[(3,some (.h 0 0)),(10,some (.h 1 0)),(11,some (.v (vI ((Qa lines (⟨#[112,111,114,116]⟩:ByteArray)).length:Int)))),(12,some (.v (vI v12)))],[(0,some (.own 0 (.l 2 Qi out))),(1,some (.own 1 (.l 1 (eL 1 eStr) (Qa lines (⟨#[112,111,114,116]⟩:ByteArray)))))],2⟩:St)) i.2.1 i.2.2) (Qcu lines) (fun i=>i.1) (Qax lines) (fun i=>(fun (out:List Qb) (v12:Int)=>(.seq .no (.seq (.cond .no .no) (.seq (.blk (.seq .no (.seq (.reg [(3,Qwv (((Qa lines (⟨#[112,111,114,116]⟩:ByteArray)).getD (Int.toNat v12) default).getD (Int.toNat 2) default))]) (.reg [(3,.dat (.l 2 Qi (out++[(F100 (((Qa lines (⟨#[112,111,114,116]⟩:ByteArray)).getD (Int.toNat v12) default).getD (Int.toNat 2) default)).1])))])))) (.reg [(0,.bnd)]))))) i.2.1 i.2.2)))) (.seq .no .no)))) Tryz.func94 (fun (hp:F22 lines=0∧lines.length≤16∧(∀ k:Nat,(lines.getD k default).size≤1048576))=>have hpre0:=hp.1; have hpre1:=hp.2.1; have hpre2:=hp.2.2; kn lines fun _=>ai (bokr 2 Qi ([]:List Qb) fun _=>rfl) (Hf lines (⟨#[112,111,114,116]⟩:ByteArray) (by first | omega | (simp only [lens,ib] at*<;> omega)) (by first | assumption | exact hpre2 _ | exact fun k _=>hpre2 k | (intros; exact trivial) | (intros; exact Nat.zero_le _)) (by first | omega | (simp only [lens,ib] at*<;> omega)) (fun gv1=>kn ([]:List Qb) fun _=>kn (Qa lines (⟨#[112,111,114,116]⟩:ByteArray)) fun _=>ai (en94_0 lines (by refine ⟨?_,?_⟩ <;> first | omega | (simp only [lens,ib] at*<;> omega))) (fun (i0:Nat×(List Qb×Int)) (hi0:Qcu lines i0)=>(fun (m0:Nat) (out:List Qb) (v12:Int) (hh0:Ucu lines i0 m0 out v12)=>have hI0:=hh0.1; have hl0:=hh0.2.1; have _:=hh0.2.2.1; have _:=hh0.2.2.2; ifd (v12<((Qa lines (⟨#[112,111,114,116]⟩:ByteArray)).length:Int)) (fun h3 _=>ai (by (first | omega | (have h9:=Qrc lines (by first | omega | (simp only [lens,ib] at*<;> omega)) (Int.toNat v12) (by first | omega | (simp only [lens,ib] at*<;> omega)); unfold Jk at h9; omega)):0≤v12∧v12<((Qa lines (⟨#[112,111,114,116]⟩:ByteArray)).length:Int)) (ai (by (first | omega | (have h9:=Qrc lines (by first | omega | (simp only [lens,ib] at*<;> omega)) (Int.toNat v12) (by first | omega | (simp only [lens,ib] at*<;> omega)); unfold Jk at h9; omega)):0≤(2:Int)∧(2:Int)<(((Qa lines (⟨#[112,111,114,116]⟩:ByteArray)).getD (Int.toNat v12) default).length:Int)) (Ual (((Qa lines (⟨#[112,111,114,116]⟩:ByteArray)).getD (Int.toNat v12) default).getD (Int.toNat 2) default) (by exact Yq lines _ (by first | omega | (simp only [lens,ib] at*<;> omega)) _ _) (ai (appr 2 Qi out [(F100 (((Qa lines (⟨#[112,111,114,116]⟩:ByteArray)).getD (Int.toNat v12) default).getD (Int.toNat 2) default)).1] fun _=>rfl) (ai (by (try simp only [lens]); omega:(out++[(F100 (((Qa lines (⟨#[112,111,114,116]⟩:ByteArray)).getD (Int.toNat v12) default).getD (Int.toNat 2) default)).1]).length*16≤140737488355328) (ai (iok (v12+1) (by first | omega | (simp only [lens,ib] at*<;> omega))) (bk94_0 lines i0 m0 (out++[(F100 (((Qa lines (⟨#[112,111,114,116]⟩:ByteArray)).getD (Int.toNat v12) default).getD (Int.toNat 2) default)).1]) (v12+1) hl0 (Qe hI0 (condT h3 rfl)) (by refine ⟨?_,?_,?_⟩ <;> first | omega | (simp only [lens,ib] at*<;> omega))))))))) (fun h3 _=>have hD0_4:Quz lines=Lp.done (out,v12):=Qk hI0 (condF h3 rfl); fi94 lines out (finD hD0_4 rfl))) (i0.1-1) i0.2.1 i0.2.2 (un94_0 lines i0 hi0))))) (by kernel_rfl)
def F91 (w1:List ByteArray):Bool :=
 ((w1.getD (Int.toNat 2) default).toList==(⟨#[97,108,108]⟩:ByteArray).toList)
def S91 (w1:List ByteArray):Spec:=⟨[.r (.c (.l 1 eStr w1))],.v (.bool (F91 w1)),Wq w1⟩
theorem ok91 (w1:List ByteArray):(S91 w1).ok Tryz.prog 91 :=
 Qn mixed (fn:=Tryz.f91) (ct:=.seqk [(0,0)] .no (.seq .no .no)) Tryz.func91 (fun (hpre0:Wq w1)=>kn w1 fun _=>ai (by (have h9:=hpre0; unfold Wq at h9; omega):0≤(2:Int)∧(2:Int)<(w1.length:Int)) (fiB ((w1.getD (Int.toNat 2) default).toList==(⟨#[97,108,108]⟩:ByteArray).toList) (F91 w1) rfl)) (by kernel_rfl)
def Vl (Q:(List ByteArray)→Prop) (p:(List ByteArray)→Bool):Uu:=⟨List ByteArray,fun i=>[.c (.x (PX (.l 1 eStr i) (Q i)))],fun i=>.bool (p i)⟩
def Gn (s:List (List ByteArray)) (f:(List ByteArray)→Bool):Int→Lp Int Int:=fun v8 =>
 bif (decide (v8<(s.length:Int))) then (bif (f (s.getD (Int.toNat v8) default)) then (.ret v8) else (.next (v8+1))) else (.done v8)
def F120 (s:List (List ByteArray)) (f:(List ByteArray)→Bool):Int :=
 (runL (Gn s f) ((Int.toNat ((s.length:Int)-0))+1) 0).fin (fun r=>r) (fun v8=>(-1))
abbrev Lr (s:List (List ByteArray)):Nat×Int:=(((Int.toNat ((s.length:Int)-0))+1),0)
abbrev Qge (s:List (List ByteArray)) (m39:Nat) (v8:Int):Prop:=Int.toNat ((s.length:Int)-v8)<m39∧(0:Int)≤v8
abbrev Qqt (s:List (List ByteArray)) (f:(List ByteArray)→Bool):Lp Int Int:=LpX (Gn s f) (Lr s)
abbrev Ml (s:List (List ByteArray)) (f:(List ByteArray)→Bool) (i:Nat×Int):Prop:=LpJ (Gn s f) (Lr s) i (Qge s i.1 i.2)
abbrev Qqw (s:List (List ByteArray)) (f:(List ByteArray)→Bool) (i:Nat×Int) (m39:Nat) (v8:Int):Prop:=LpH (Gn s f) (Lr s) i m39 v8 (Qge s (m39+1) v8)
abbrev Qqs (Qf:(List ByteArray)→Prop) (s:List (List ByteArray)) (f:(List ByteArray)→Bool) (v8:Int) (v8_:Int) (K39:Prop):Prop:=(Rf (.int .i64 (s.length:Int)))∧((.int .i64 v8:Value)=.int .i64 v8_)∧(Im (.l 1 (eL 1 eStr) s))∧(Vl Qf f=Vl Qf f)∧K39
theorem Uex (s:List (List ByteArray)) (f:(List ByteArray)→Bool) (i:Nat×Int) (h:Ml s f i):Qqw s f i (i.1-1) i.2:=⟨hd1 h.1 h.2.1,hd3 h.2.1,hd2 h.2.1,h.2.2⟩
theorem Ufx (Qf:(List ByteArray)→Prop) (s:List (List ByteArray)) (f:(List ByteArray)→Bool) (i:Nat×Int) (m39:Nat) (v8:Int) (hl:m39<i.1) (e:runL (Gn s f) m39 v8=Qqt s f) (h:Qge s m39 v8):∃ j:Nat×Int,Qqs Qf s f v8 j.2 (Ml s f j∧j.1<i.1):=⟨(m39,v8),rfl,rfl,Imp.refl _,rfl,⟨e,h⟩,hl⟩
theorem Uem (Qf:(List ByteArray)→Prop) (s:List (List ByteArray)) (f:(List ByteArray)→Bool) (h:(0:Int)≤0):Qqs Qf s f 0 0 (Ml s f (Lr s)):=⟨rfl,rfl,Imp.refl _,rfl,rfl,Nat.lt_succ_self _,h⟩
def S120 (R:Int) (s:List (List ByteArray)) (f:(List ByteArray)→Bool) (Qf:(List ByteArray)→Prop):Spec:=⟨[.r (.c (.l 1 (eL 1 eStr) s)),.fn (Vl Qf f)],.v (vI R),(∀ k:Nat,k<s.length→Qf (s.getD k default))⟩
theorem ok120 (s:List (List ByteArray)) (f:(List ByteArray)→Bool) (Qf:(List ByteArray)→Prop):(S120 (F120 s f) s f Qf).ok Tryz.prog 120 false :=
 Qn mixed (fn:=Tryz.f120) (ct:=.seqk [(0,0)] .no (.seq (.seqk [(0,0)] .no (.blk (.loop (ι:=Nat×Int) (fun i=>(fun (v8:Int)=>(⟨[(0,some (.h 0 0)),(1,some (.h 1 0)),(7,some (.v (vI (s.length:Int)))),(8,some (.v (vI v8)))],[(0,some (.shr none (.l 1 (eL 1 eStr) s))),(1,some (.fn (Vl Qf f)))],2⟩:St)) i.2) (Ml s f) (fun i=>i.1) (Lr s) (fun i=>(fun (v8:Int)=>(.seq .no (.seq (.cond .no .no) (.seq (.blk (.seq .no (.seq (.reg [(5,.fnv (Vl Qf f) (s.getD (Int.toNat v8) default))]) (.cond (.seq .no .no) .no)))) (.reg [(0,.bnd)]))))) i.2)))) (.seq .no .no))) Tryz.func120 (fun (hpre0:∀ k:Nat,k<s.length→Qf (s.getD k default))=>kn s fun _=>kn s fun _=>ai (Uem Qf s f (by omega)) (fun (i0:Nat×Int) (hi0:Ml s f i0)=>(fun (m0:Nat) (v8:Int) (hh0:Qqw s f i0 m0 v8)=>have hI0:=hh0.1; have hl0:=hh0.2.1; have _:=hh0.2.2.1; have _:=hh0.2.2.2; ifd (v8<(s.length:Int)) (fun h2 _=>ai (by omega:ib v8 s) (ai (Eq.refl (Vl Qf f)) (ai (Imp.px (d:=.l 1 eStr (s.getD (Int.toNat v8) default)) (hpre0 (Int.toNat v8) (by omega))) (ifb (f (s.getD (Int.toNat v8) default)) (fun h3=>fiI v8 (F120 s f) (finR (Qr hI0 (condT h2 (condT h3 rfl))) rfl)) (fun h3=>ai (iok (v8+1) (by omega)) (Ufx Qf s f i0 m0 (v8+1) hl0 (Qe hI0 (condT h2 (condF h3 rfl))) (by refine ⟨?_,?_⟩ <;> omega))))))) (fun h2 _=>have hD0_4:Qqt s f=Lp.done v8:=Qk hI0 (condF h2 rfl); fiI (-1) (F120 s f) (finD hD0_4 rfl))) (i0.1-1) i0.2 (Uex s f i0 hi0))) (by kernel_rfl)
theorem as120 (s:List (List ByteArray)) (f:(List ByteArray)→Bool):F120 s f=(idxI f s):=by
 exact Vo f s (Gn s f) (fun i=>rfl)
theorem oa120 (s:List (List ByteArray)) (f:(List ByteArray)→Bool) (Qf:(List ByteArray)→Prop):(S120 (idxI f s) s f Qf).ok Tryz.prog 120 false:=by
 intro hp; have h:=ok120 s f Qf hp; rw [as120 s f] at h; exact h
theorem g120_0 (s:List (List ByteArray)) (f:(List ByteArray)→Bool):(idxI f s)<(s.length:Int):=by
 exact Mp f s
theorem g120_1 (s:List (List ByteArray)) (f:(List ByteArray)→Bool):-1≤(idxI f s):=by
 (show -1≤idxI f s; unfold idxI; cases first (fun k=>f (s.getD k default)) s.length <;> simp only [oix] <;> omega)
theorem kc120a (s:List (List ByteArray)) (f:(List ByteArray)→Bool) (Qf:(List ByteArray)→Prop) {K_:Prop} (p0_:∀ k:Nat,k<s.length→Qf (s.getD k default)) (k_:((idxI f s)<(s.length:Int))→(-1≤(idxI f s))→K_):(∀ k:Nat,k<s.length→Qf (s.getD k default))∧(Imp (.l 1 (eL 1 eStr) s) (.l 1 (eL 1 eStr) s))∧(Vl Qf f=Vl Qf f)∧K_:=⟨p0_,Imp.refl _,rfl,k_ (g120_0 s f) (g120_1 s f)⟩
abbrev kh120a (s:List (List ByteArray)) (f:(List ByteArray)→Bool) (Qf:(List ByteArray)→Prop):Hint false Tryz.prog:=.call 120 (S120 (idxI f s) s f Qf) (oa120 s f Qf) none
def F90 (s:List (List ByteArray)) (f:(List ByteArray)→Bool):Bool :=
 decide ((idxI f s)≥0)
def S90 (R:Bool) (s:List (List ByteArray)) (f:(List ByteArray)→Bool) (Qf:(List ByteArray)→Prop):Spec:=⟨[.r (.c (.l 1 (eL 1 eStr) s)),.fn (Vl Qf f)],.v (.bool R),(∀ k:Nat,k<s.length→Qf (s.getD k default))⟩
theorem ok90 (s:List (List ByteArray)) (f:(List ByteArray)→Bool) (Qf:(List ByteArray)→Prop):(S90 (F90 s f) s f Qf).ok Tryz.prog 90 false :=
 Qn mixed (fn:=Tryz.f90) (ct:=.seqk [(0,0)] .no (.seq (.reg [(2,kh120a s f Qf)]) .no)) Tryz.func90 (fun (hpre0:∀ k:Nat,k<s.length→Qf (s.getD k default))=>kn s fun _=>kc120a s f Qf (by assumption) (fun gv1 gv2=>fiB (decide ((idxI f s)≥0)) (F90 s f) rfl)) (by kernel_rfl)
theorem as90 (s:List (List ByteArray)) (f:(List ByteArray)→Bool):F90 s f=(s.any f):=by
 exact Tc f s
theorem oa90 (s:List (List ByteArray)) (f:(List ByteArray)→Bool) (Qf:(List ByteArray)→Prop):(S90 (s.any f) s f Qf).ok Tryz.prog 90 false:=by
 intro hp; have h:=ok90 s f Qf hp; rw [as90 s f] at h; exact h
def F70 (lines:List ByteArray):Bool :=
 (!((Qa lines (⟨#[117,115,101,114]⟩:ByteArray)).any (fun (x0:List ByteArray)=>F91 x0)))
def S70 (lines:List ByteArray):Spec:=⟨[.r (.c (.l 1 eStr lines))],.v (.bool (F70 lines)),F22 lines=0∧lines.length≤16∧(∀ k:Nat,(lines.getD k default).size≤1048576)⟩
theorem ok70 (lines:List ByteArray):(S70 lines).ok Tryz.prog 70 false :=
 Qn mixed (fn:=Tryz.f70) (ct:=.seqk [(0,0)] .no (.seq (.reg [(1,Vy lines (⟨#[117,115,101,114]⟩:ByteArray)),(2,.call 90 (S90 ((Qa lines (⟨#[117,115,101,114]⟩:ByteArray)).any (fun (x0:List ByteArray)=>F91 x0)) (Qa lines (⟨#[117,115,101,114]⟩:ByteArray)) (fun (x0:List ByteArray)=>F91 x0) (fun (x0:List ByteArray)=>Wq x0)) (oa90 (Qa lines (⟨#[117,115,101,114]⟩:ByteArray)) (fun (x0:List ByteArray)=>F91 x0) (fun (x0:List ByteArray)=>Wq x0)) (some ⟨true,91,Vl (fun (x0:List ByteArray)=>Wq x0) (fun (x0:List ByteArray)=>F91 x0),[],rfl,True,fun i=>Xv (ok91 i)⟩))]) .no)) Tryz.func70 (fun (hp:F22 lines=0∧lines.length≤16∧(∀ k:Nat,(lines.getD k default).size≤1048576))=>have hpre0:=hp.1; have hpre1:=hp.2.1; have hpre2:=hp.2.2; kn lines fun _=>Hf lines (⟨#[117,115,101,114]⟩:ByteArray) (by omega) (by assumption) (by omega) (fun gv1=>ai (by exact Ufr lines (by omega):∀ k:Nat,k<(Qa lines (⟨#[117,115,101,114]⟩:ByteArray)).length→(fun (x0:List ByteArray)=>Wq x0) ((Qa lines (⟨#[117,115,101,114]⟩:ByteArray)).getD k default)) (ai (Imp.refl (.l 1 (eL 1 eStr) (Qa lines (⟨#[117,115,101,114]⟩:ByteArray)))) (ai (Eq.refl (Vl (fun (x0:List ByteArray)=>Wq x0) (fun (x0:List ByteArray)=>F91 x0))) (ai trivial (fiB (!((Qa lines (⟨#[117,115,101,114]⟩:ByteArray)).any (fun (x0:List ByteArray)=>F91 x0))) (F70 lines) rfl)))))) (by kernel_rfl)
def Bw (lines:List ByteArray) (name:ByteArray):(Int×Int)→Lp (Int×Int) Int:=fun (n,v11) =>
 bif (decide (v11<((Qa lines (⟨#[114,117,108,101]⟩:ByteArray)).length:Int))) then (bif ((((Qa lines (⟨#[114,117,108,101]⟩:ByteArray)).getD (Int.toNat v11) default).getD (Int.toNat 1) default).toList==name.toList) then (.next ((n+1),(v11+1))) else (.next (n,(v11+1)))) else (.done (n,v11))
def F92 (lines:List ByteArray) (name:ByteArray):Int :=
 (runL (Bw lines name) ((Int.toNat (((Qa lines (⟨#[114,117,108,101]⟩:ByteArray)).length:Int)-0))+1) (0,0)).fin (fun r=>r) (fun (n,v11)=>n)
abbrev Qan (lines:List ByteArray):Nat×(Int×Int):=(((Int.toNat (((Qa lines (⟨#[114,117,108,101]⟩:ByteArray)).length:Int)-0))+1),(0,0))
abbrev Qmt (lines:List ByteArray) (m39:Nat) (n:Int) (v11:Int):Prop:=Int.toNat (((Qa lines (⟨#[114,117,108,101]⟩:ByteArray)).length:Int)-v11)<m39∧(0:Int)≤n∧(n:Int)≤v11∧(0:Int)≤n∧(0:Int)≤v11
abbrev Qvv (lines:List ByteArray) (name:ByteArray):Lp (Int×Int) Int:=LpX (Bw lines name) (Qan lines)
abbrev Eh (lines:List ByteArray) (name:ByteArray) (i:Nat×(Int×Int)):Prop:=LpJ (Bw lines name) (Qan lines) i (Qmt lines i.1 i.2.1 i.2.2)
abbrev Qyn (lines:List ByteArray) (name:ByteArray) (i:Nat×(Int×Int)) (m39:Nat) (n:Int) (v11:Int):Prop:=LpH (Bw lines name) (Qan lines) i m39 (n,v11) (Qmt lines (m39+1) n v11)
abbrev Qxi (lines:List ByteArray) (name:ByteArray) (n:Int) (v11:Int) (n_:Int) (v11_:Int) (K39:Prop):Prop:=(Rf (.string name))∧((.int .i64 n:Value)=.int .i64 n_)∧(Rf (.int .i64 ((Qa lines (⟨#[114,117,108,101]⟩:ByteArray)).length:Int)))∧((.int .i64 v11:Value)=.int .i64 v11_)∧(Im (.l 1 (eL 1 eStr) (Qa lines (⟨#[114,117,108,101]⟩:ByteArray))))∧K39
theorem un92_0 (lines:List ByteArray) (name:ByteArray) (i:Nat×(Int×Int)) (h:Eh lines name i):Qyn lines name i (i.1-1) i.2.1 i.2.2:=⟨hd1 h.1 h.2.1,hd3 h.2.1,hd2 h.2.1,h.2.2⟩
theorem Qul (lines:List ByteArray) (name:ByteArray) (i:Nat×(Int×Int)) (m39:Nat) (n:Int) (v11:Int) (hl:m39<i.1) (e:runL (Bw lines name) m39 (n,v11)=Qvv lines name) (h:Qmt lines m39 n v11):∃ j:Nat×(Int×Int),Qxi lines name n v11 j.2.1 j.2.2 (Eh lines name j∧j.1<i.1):=⟨(m39,(n,v11)),rfl,rfl,rfl,rfl,Imp.refl _,⟨e,h⟩,hl⟩
theorem en92_0 (lines:List ByteArray) (name:ByteArray) (h:(0:Int)≤0∧(0:Int)≤0∧(0:Int)≤0∧(0:Int)≤0):Qxi lines name 0 0 0 0 (Eh lines name (Qan lines)):=⟨rfl,rfl,rfl,rfl,Imp.refl _,rfl,Nat.lt_succ_self _,h⟩
def S92 (lines:List ByteArray) (name:ByteArray):Spec:=⟨[.r (.c (.l 1 eStr lines)),.r (.c (.v (.string name)))],.v (vI (F92 lines name)),F22 lines=0∧lines.length≤16∧(∀ k:Nat,(lines.getD k default).size≤1048576)⟩
theorem ok92 (lines:List ByteArray) (name:ByteArray):(S92 lines name).ok Tryz.prog 92 :=
 Qn mixed (fn:=Tryz.f92) (ct:=.seqk [(0,0)] .no (.seq .no (.seq (.seqk [(9,0)] (.reg [(1,kh34a lines (⟨#[114,117,108,101]⟩:ByteArray))]) (.blk (.loop (ι:=Nat×(Int×Int)) (fun i=>(fun (n:Int) (v11:Int)=>(⟨[(1,some (.v (.string name))),(5,some (.v (vI n))),(9,some (.h 0 0)),(10,some (.v (vI ((Qa lines (⟨#[114,117,108,101]⟩:ByteArray)).length:Int)))),(11,some (.v (vI v11)))],[(0,some (.own 0 (.l 1 (eL 1 eStr) (Qa lines (⟨#[114,117,108,101]⟩:ByteArray)))))],1⟩:St)) i.2.1 i.2.2) (Eh lines name) (fun i=>i.1) (Qan lines) (fun i=>(fun (n:Int) (v11:Int)=>(.seq .no (.seq (.cond .no .no) (.seq (.blk (.seq .no (.seq .no (.cond (.reg [(1,.bnd)]) .no)))) (.reg [(0,.bnd)]))))) i.2.1 i.2.2)))) (.seq .no .no)))) Tryz.func92 (fun (hp:F22 lines=0∧lines.length≤16∧(∀ k:Nat,(lines.getD k default).size≤1048576))=>have hpre0:=hp.1; have hpre1:=hp.2.1; have hpre2:=hp.2.2; kn lines fun _=>Hf lines (⟨#[114,117,108,101]⟩:ByteArray) (by omega) (by assumption) (by omega) (fun gv1=>kn (Qa lines (⟨#[114,117,108,101]⟩:ByteArray)) fun _=>ai (en92_0 lines name (by refine ⟨?_,?_,?_,?_⟩ <;> omega)) (fun (i0:Nat×(Int×Int)) (hi0:Eh lines name i0)=>(fun (m0:Nat) (n:Int) (v11:Int) (hh0:Qyn lines name i0 m0 n v11)=>have hI0:=hh0.1; have hl0:=hh0.2.1; have _:=hh0.2.2.1; have _:=hh0.2.2.2; ifd (v11<((Qa lines (⟨#[114,117,108,101]⟩:ByteArray)).length:Int)) (fun h3 _=>ai (by (omega):0≤v11∧v11<((Qa lines (⟨#[114,117,108,101]⟩:ByteArray)).length:Int)) (ai (by (have h9:=Qpo lines (by omega) (Int.toNat v11) (by omega); unfold Wd at h9; omega):0≤(1:Int)∧(1:Int)<(((Qa lines (⟨#[114,117,108,101]⟩:ByteArray)).getD (Int.toNat v11) default).length:Int)) (ifb ((((Qa lines (⟨#[114,117,108,101]⟩:ByteArray)).getD (Int.toNat v11) default).getD (Int.toNat 1) default).toList==name.toList) (fun h4=>ai (iok (n+1) (by omega)) (ai (iok (v11+1) (by omega)) (Qul lines name i0 m0 (n+1) (v11+1) hl0 (Qe hI0 (condT h3 (condT h4 rfl))) (by refine ⟨?_,?_,?_,?_,?_⟩ <;> omega)))) (fun h4=>ai (iok (v11+1) (by omega)) (Qul lines name i0 m0 n (v11+1) hl0 (Qe hI0 (condT h3 (condF h4 rfl))) (by refine ⟨?_,?_,?_,?_,?_⟩ <;> omega)))))) (fun h3 _=>have hD0_5:Qvv lines name=Lp.done (n,v11):=Qk hI0 (condF h3 rfl); fiI n (F92 lines name) (finD hD0_5 rfl))) (i0.1-1) i0.2.1 i0.2.2 (un92_0 lines name i0 hi0)))) (by kernel_rfl)
theorem kc92 (lines:List ByteArray) (name:ByteArray) {K_:Prop} (p0_:F22 lines=0) (p1_:lines.length≤16) (p2_:∀ k:Nat,(lines.getD k default).size≤1048576) (k_:K_):(F22 lines=0∧lines.length≤16∧(∀ k:Nat,(lines.getD k default).size≤1048576))∧(Imp (.l 1 eStr lines) (.l 1 eStr lines))∧(Imp (.v (.string name)) (.v (.string name)))∧K_:=⟨⟨p0_,p1_,p2_⟩,Imp.refl _,Imp.refl _,k_⟩
abbrev kh92 (lines:List ByteArray) (name:ByteArray):Hint true Tryz.prog:=.call 92 (S92 lines name) (ok92 lines name) none
def F93 (w1:List ByteArray) (p1:List ByteArray):Bool :=
 decide ((F92 p1 (w1.getD (Int.toNat 1) default))>12)
def S93 (w1:List ByteArray) (p1:List ByteArray):Spec:=⟨[.r (.c (.l 1 eStr w1)),.rp ([.l 1 eStr p1])],.v (.bool (F93 w1 p1)),Wd w1∧F22 p1=0∧p1.length≤16∧(∀ k:Nat,(p1.getD k default).size≤1048576)⟩
theorem ok93 (w1:List ByteArray) (p1:List ByteArray):(S93 w1 p1).ok Tryz.prog 93 :=
 Qn mixed (fn:=Tryz.f93) (ct:=.seqk [(0,0)] .no (.seq (.reg [(4,kh92 p1 (w1.getD (Int.toNat 1) default))]) .no)) Tryz.func93 (fun (hp:Wd w1∧F22 p1=0∧p1.length≤16∧(∀ k:Nat,(p1.getD k default).size≤1048576))=>have hpre0:=hp.1; have hpre1:=hp.2.1; have hpre2:=hp.2.2.1; have hpre3:=hp.2.2.2; kn w1 fun _=>ai (by (have h9:=hpre0; unfold Wd at h9; omega):0≤(1:Int)∧(1:Int)<(w1.length:Int)) (kc92 p1 (w1.getD (Int.toNat 1) default) (by omega) (by omega) (by assumption) (fiB (decide ((F92 p1 (w1.getD (Int.toNat 1) default))>12)) (F93 w1 p1) rfl))) (by kernel_rfl)
theorem kg92 {K_:Prop} (c_ b_:Bool) (lines:List ByteArray) (name:ByteArray) (p_:c_=b_→F22 lines=0∧lines.length≤16∧(∀ k:Nat,(lines.getD k default).size≤1048576)) (k_:K_):(c_=b_→F22 lines=0∧lines.length≤16∧(∀ k:Nat,(lines.getD k default).size≤1048576))∧(c_=b_→Imp (.l 1 eStr lines) (.l 1 eStr lines))∧(c_=b_→Imp (.v (.string name)) (.v (.string name)))∧K_:=⟨p_,fun _=>Imp.refl _,fun _=>Imp.refl _,k_⟩
abbrev kh92f (lines:List ByteArray) (name:ByteArray):Hint false Tryz.prog:=.call 92 (S92 lines name) ((ok92 lines name).to false) none
def Bs (lines:List ByteArray):Int→Lp Int Bool:=fun v8 =>
 bif (decide (v8<((Qa lines (⟨#[112,111,114,116]⟩:ByteArray)).length:Int))) then (bif (bif decide ((((Qa lines (⟨#[112,111,114,116]⟩:ByteArray)).getD (Int.toNat v8) default).length:Int)>4) then ((F92 lines (((Qa lines (⟨#[112,111,114,116]⟩:ByteArray)).getD (Int.toNat v8) default).getD (Int.toNat 4) default))==0) else false) then (.ret true) else (.next (v8+1))) else (.done v8)
def F71 (lines:List ByteArray):Bool :=
 (runL (Bs lines) ((Int.toNat (((Qa lines (⟨#[112,111,114,116]⟩:ByteArray)).length:Int)-0))+1) 0).fin (fun r=>r) (fun v8=>((Qa lines (⟨#[114,117,108,101]⟩:ByteArray)).any (fun (x0:List ByteArray)=>F93 x0 lines)))
abbrev Ej (lines:List ByteArray):Nat×Int:=(((Int.toNat (((Qa lines (⟨#[112,111,114,116]⟩:ByteArray)).length:Int)-0))+1),0)
abbrev Qoh (lines:List ByteArray) (m39:Nat) (v8:Int):Prop:=Int.toNat (((Qa lines (⟨#[112,111,114,116]⟩:ByteArray)).length:Int)-v8)<m39∧(0:Int)≤v8
abbrev Udf (lines:List ByteArray):Lp Int Bool:=LpX (Bs lines) (Ej lines)
abbrev Qak (lines:List ByteArray) (i:Nat×Int):Prop:=LpJ (Bs lines) (Ej lines) i (Qoh lines i.1 i.2)
abbrev Qvr (lines:List ByteArray) (i:Nat×Int) (m39:Nat) (v8:Int):Prop:=LpH (Bs lines) (Ej lines) i m39 v8 (Qoh lines (m39+1) v8)
abbrev Uam (lines:List ByteArray) (v8:Int) (v8_:Int) (K39:Prop):Prop:=(Rf (.int .i64 ((Qa lines (⟨#[112,111,114,116]⟩:ByteArray)).length:Int)))∧((.int .i64 v8:Value)=.int .i64 v8_)∧(Im (.l 1 eStr lines))∧(Im (.l 1 (eL 1 eStr) (Qa lines (⟨#[112,111,114,116]⟩:ByteArray))))∧K39
theorem un71_0 (lines:List ByteArray) (i:Nat×Int) (h:Qak lines i):Qvr lines i (i.1-1) i.2:=⟨hd1 h.1 h.2.1,hd3 h.2.1,hd2 h.2.1,h.2.2⟩
theorem bk71_0 (lines:List ByteArray) (i:Nat×Int) (m39:Nat) (v8:Int) (hl:m39<i.1) (e:runL (Bs lines) m39 v8=Udf lines) (h:Qoh lines m39 v8):∃ j:Nat×Int,Uam lines v8 j.2 (Qak lines j∧j.1<i.1):=⟨(m39,v8),rfl,rfl,Imp.refl _,Imp.refl _,⟨e,h⟩,hl⟩
theorem en71_0 (lines:List ByteArray) (h:(0:Int)≤0):Uam lines 0 0 (Qak lines (Ej lines)):=⟨rfl,rfl,Imp.refl _,Imp.refl _,rfl,Nat.lt_succ_self _,h⟩
def S71 (lines:List ByteArray):Spec:=⟨[.r (.c (.l 1 eStr lines))],.v (.bool (F71 lines)),F22 lines=0∧lines.length≤16∧(∀ k:Nat,(lines.getD k default).size≤1048576)⟩
theorem ok71 (lines:List ByteArray):(S71 lines).ok Tryz.prog 71 false :=
 Qn mixed (fn:=Tryz.f71) (ct:=.seq .no (.seq (.seqk [(1,0),(6,0)] (.reg [(1,Vy lines (⟨#[112,111,114,116]⟩:ByteArray))]) (.blk (.loop (ι:=Nat×Int) (fun i=>(fun (v8:Int)=>(⟨[(1,some (.p 0 0)),(6,some (.h 2 0)),(7,some (.v (vI ((Qa lines (⟨#[112,111,114,116]⟩:ByteArray)).length:Int)))),(8,some (.v (vI v8)))],[(0,some (.box 22 [.h 1 0])),(1,some (.shr none (.l 1 eStr lines))),(2,some (.own 2 (.l 1 (eL 1 eStr) (Qa lines (⟨#[112,111,114,116]⟩:ByteArray)))))],3⟩:St)) i.2) (Qak lines) (fun i=>i.1) (Ej lines) (fun i=>(fun (v8:Int)=>(.seq .no (.seq (.cond .no .no) (.seq (.blk (.seq .no (.seq (.reg [(8,kh92f lines (((Qa lines (⟨#[112,111,114,116]⟩:ByteArray)).getD (Int.toNat v8) default).getD (Int.toNat 4) default))]) (.cond (.seq .no .no) .no)))) (.reg [(0,.bnd)]))))) i.2)))) (.seq (.reg [(1,Vy lines (⟨#[114,117,108,101]⟩:ByteArray)),(3,.call 90 (S90 ((Qa lines (⟨#[114,117,108,101]⟩:ByteArray)).any (fun (x0:List ByteArray)=>F93 x0 lines)) (Qa lines (⟨#[114,117,108,101]⟩:ByteArray)) (fun (x0:List ByteArray)=>F93 x0 lines) (fun (x0:List ByteArray)=>Wd x0∧F22 lines=0∧lines.length≤16∧(∀ k:Nat,(lines.getD k default).size≤1048576))) (oa90 (Qa lines (⟨#[114,117,108,101]⟩:ByteArray)) (fun (x0:List ByteArray)=>F93 x0 lines) (fun (x0:List ByteArray)=>Wd x0∧F22 lines=0∧lines.length≤16∧(∀ k:Nat,(lines.getD k default).size≤1048576))) (some ⟨true,93,Vl (fun (x0:List ByteArray)=>Wd x0∧F22 lines=0∧lines.length≤16∧(∀ k:Nat,(lines.getD k default).size≤1048576)) (fun (x0:List ByteArray)=>F93 x0 lines),[.rp ([.l 1 eStr lines])],rfl,True,fun i=>Xv (ok93 i lines)⟩))]) .no))) Tryz.func71 (fun (hp:F22 lines=0∧lines.length≤16∧(∀ k:Nat,(lines.getD k default).size≤1048576))=>have hpre0:=hp.1; have hpre1:=hp.2.1; have hpre2:=hp.2.2; Hf lines (⟨#[112,111,114,116]⟩:ByteArray) (by omega) (by assumption) (by omega) (fun gv1=>kn lines fun _=>kn (Qa lines (⟨#[112,111,114,116]⟩:ByteArray)) fun _=>ai (en71_0 lines (by omega)) (fun (i0:Nat×Int) (hi0:Qak lines i0)=>(fun (m0:Nat) (v8:Int) (hh0:Qvr lines i0 m0 v8)=>have hI0:=hh0.1; have hl0:=hh0.2.1; have _:=hh0.2.2.1; have _:=hh0.2.2.2; ifd (v8<((Qa lines (⟨#[112,111,114,116]⟩:ByteArray)).length:Int)) (fun h3 _=>ai (by omega:ib v8 (Qa lines (⟨#[112,111,114,116]⟩:ByteArray))) (ai (fun k4:(decide ((((Qa lines (⟨#[112,111,114,116]⟩:ByteArray)).getD (Int.toNat v8) default).length:Int)>4))=true=>have _:(((Qa lines (⟨#[112,111,114,116]⟩:ByteArray)).getD (Int.toNat v8) default).length:Int)>4:=of_decide_eq_true k4; (by omega:ib 4 ((Qa lines (⟨#[112,111,114,116]⟩:ByteArray)).getD (Int.toNat v8) default))) (kg92 (decide ((((Qa lines (⟨#[112,111,114,116]⟩:ByteArray)).getD (Int.toNat v8) default).length:Int)>4)) true lines (((Qa lines (⟨#[112,111,114,116]⟩:ByteArray)).getD (Int.toNat v8) default).getD (Int.toNat 4) default) (fun k5=>have _:(((Qa lines (⟨#[112,111,114,116]⟩:ByteArray)).getD (Int.toNat v8) default).length:Int)>4:=of_decide_eq_true k5; ⟨(by omega),(by omega),(by assumption)⟩) (ifb (bif decide ((((Qa lines (⟨#[112,111,114,116]⟩:ByteArray)).getD (Int.toNat v8) default).length:Int)>4) then ((F92 lines (((Qa lines (⟨#[112,111,114,116]⟩:ByteArray)).getD (Int.toNat v8) default).getD (Int.toNat 4) default))==0) else false) (fun h6=>have _:(((Qa lines (⟨#[112,111,114,116]⟩:ByteArray)).getD (Int.toNat v8) default).length:Int)>4:=of_decide_eq_true (Ql h6); have _:(F92 lines (((Qa lines (⟨#[112,111,114,116]⟩:ByteArray)).getD (Int.toNat v8) default).getD (Int.toNat 4) default))=0:=eq_of_beq (Qv h6); fiB true (F71 lines) (finR (Qr hI0 (condT h3 (condT h6 rfl))) rfl)) (fun h6=>ai (iok (v8+1) (by omega)) (bk71_0 lines i0 m0 (v8+1) hl0 (Qe hI0 (condT h3 (condF h6 rfl))) (by refine ⟨?_,?_⟩ <;> omega))))))) (fun h3 _=>have hD0_7:Udf lines=Lp.done v8:=Qk hI0 (condF h3 rfl); Hf lines (⟨#[114,117,108,101]⟩:ByteArray) (by omega) (by assumption) (by omega) (fun gv8=>ai (by exact fun k hk=>⟨Qpo lines (by omega) k hk,by omega,by omega,by assumption⟩:∀ k:Nat,k<(Qa lines (⟨#[114,117,108,101]⟩:ByteArray)).length→(fun (x0:List ByteArray)=>Wd x0∧F22 lines=0∧lines.length≤16∧(∀ k:Nat,(lines.getD k default).size≤1048576)) ((Qa lines (⟨#[114,117,108,101]⟩:ByteArray)).getD k default)) (ai (Imp.refl (.l 1 (eL 1 eStr) (Qa lines (⟨#[114,117,108,101]⟩:ByteArray)))) (ai (Eq.refl (Vl (fun (x0:List ByteArray)=>Wd x0∧F22 lines=0∧lines.length≤16∧(∀ k:Nat,(lines.getD k default).size≤1048576)) (fun (x0:List ByteArray)=>F93 x0 lines))) (ai trivial (ai (Imps.refl [.l 1 eStr lines]) (fiB ((Qa lines (⟨#[114,117,108,101]⟩:ByteArray)).any (fun (x0:List ByteArray)=>F93 x0 lines)) (F71 lines) (finD hD0_7 rfl))))))))) (i0.1-1) i0.2 (un71_0 lines i0 hi0)))) (by kernel_rfl)
structure l52Cut where
 w:List ByteArray
 deriving DecidableEq,Inhabited
def Qh (x:l52Cut):List Dat:=[.l 1 eStr x.w]
def Xl (lines:List ByteArray):(List l52Cut×Int)→Lp (List l52Cut×Int) (List l52Cut):=fun (out,i40) =>
 bif (decide (i40<(lines.length:Int))) then (.next ((out++[(⟨(F42 (lines.getD (Int.toNat i40) default)).1⟩:l52Cut)]),(i40+1))) else (.done (out,i40))
def F23 (lines:List ByteArray):List l52Cut :=
 (runL (Xl lines) ((Int.toNat ((lines.length:Int)-0))+1) (([]:List l52Cut),0)).fin (fun r=>r) (fun (out,i40)=>out)
abbrev Qda (lines:List ByteArray):Nat×(List l52Cut×Int):=(((Int.toNat ((lines.length:Int)-0))+1),(([]:List l52Cut),0))
abbrev Qmd (lines:List ByteArray) (m39:Nat) (out:List l52Cut) (i40:Int):Prop:=Int.toNat ((lines.length:Int)-i40)<m39∧(out.length:Int)≤i40∧(0:Int)≤i40
abbrev Qyy (lines:List ByteArray):Lp (List l52Cut×Int) (List l52Cut):=LpX (Xl lines) (Qda lines)
abbrev Qdg (lines:List ByteArray) (i:Nat×(List l52Cut×Int)):Prop:=LpJ (Xl lines) (Qda lines) i (Qmd lines i.1 i.2.1 i.2.2)
abbrev Ube (lines:List ByteArray) (i:Nat×(List l52Cut×Int)) (m39:Nat) (out:List l52Cut) (i40:Int):Prop:=LpH (Xl lines) (Qda lines) i m39 (out,i40) (Qmd lines (m39+1) out i40)
abbrev Ubq (lines:List ByteArray) (out:List l52Cut) (i40:Int) (out_:List l52Cut) (i40_:Int) (K39:Prop):Prop:=((.int .i64 i40:Value)=.int .i64 i40_)∧(Im (.l 1 eStr lines))∧(Imp (.l 1 Qh out) (.l 1 Qh out_))∧K39
theorem un23_0 (lines:List ByteArray) (i:Nat×(List l52Cut×Int)) (h:Qdg lines i):Ube lines i (i.1-1) i.2.1 i.2.2:=⟨hd1 h.1 h.2.1,hd3 h.2.1,hd2 h.2.1,h.2.2⟩
theorem bk23_0 (lines:List ByteArray) (i:Nat×(List l52Cut×Int)) (m39:Nat) (out:List l52Cut) (i40:Int) (hl:m39<i.1) (e:runL (Xl lines) m39 (out,i40)=Qyy lines) (h:Qmd lines m39 out i40):∃ j:Nat×(List l52Cut×Int),Ubq lines out i40 j.2.1 j.2.2 (Qdg lines j∧j.1<i.1):=⟨(m39,(out,i40)),rfl,Imp.refl _,Imp.refl _,⟨e,h⟩,hl⟩
theorem en23_0 (lines:List ByteArray) (h:(([]:List l52Cut).length:Int)≤0∧(0:Int)≤0):Ubq lines ([]:List l52Cut) 0 ([]:List l52Cut) 0 (Qdg lines (Qda lines)):=⟨rfl,Imp.refl _,Imp.refl _,rfl,Nat.lt_succ_self _,h⟩
theorem fi23 (lines:List ByteArray) (r:List l52Cut) (hF:r=(F23 lines)):(Imp (.l 1 Qh r) (.l 1 Qh (F23 lines)))∧True:=by cases hF; exact ⟨Imp.refl _,trivial⟩
def S23 (R:List l52Cut) (lines:List ByteArray):Spec:=⟨[.r (.c (.l 1 eStr lines))],.ow (.l 1 Qh R),lines.length≤16∧(∀ k:Nat,(lines.getD k default).size≤1048576)⟩
theorem ok23 (lines:List ByteArray):(S23 (F23 lines) lines).ok Tryz.prog 23 :=
 Qn mixed (fn:=Tryz.f23) (ct:=.seqk [(0,0)] .no (.seq (.reg [(0,.dat (.l 1 Qh ([]:List l52Cut)))]) (.seq (.seqk [(0,0),(3,0)] .no (.blk (.loop (ι:=Nat×(List l52Cut×Int)) (fun i=>(fun (out:List l52Cut) (i40:Int)=>(⟨[(0,some (.h 0 0)),(3,some (.h 1 0)),(4,some (.v (vI i40)))],[(0,some (.shr none (.l 1 eStr lines))),(1,some (.own 1 (.l 1 Qh out)))],2⟩:St)) i.2.1 i.2.2) (Qdg lines) (fun i=>i.1) (Qda lines) (fun i=>(fun (out:List l52Cut) (i40:Int)=>(.seq (.seq .no (.cond .no .no)) (.seq (.blk (.seq (.reg [(4,kh42 (lines.getD (Int.toNat i40) default))]) (.reg [(4,.dat (.l 1 Qh (out++[(⟨(F42 (lines.getD (Int.toNat i40) default)).1⟩:l52Cut)])))]))) (.reg [(1,.bnd)])))) i.2.1 i.2.2)))) (.seq .no .no)))) Tryz.func23 (fun (hp:lines.length≤16∧(∀ k:Nat,(lines.getD k default).size≤1048576))=>have hpre0:=hp.1; have hpre1:=hp.2; kn lines fun _=>ai (bokr 1 Qh ([]:List l52Cut) fun _=>rfl) (kn lines fun _=>kn ([]:List l52Cut) fun _=>ai (en23_0 lines (by refine ⟨?_,?_⟩ <;> (simp only [lens,ib] at*<;> omega))) (fun (i0:Nat×(List l52Cut×Int)) (hi0:Qdg lines i0)=>(fun (m0:Nat) (out:List l52Cut) (i40:Int) (hh0:Ube lines i0 m0 out i40)=>have hI0:=hh0.1; have hl0:=hh0.2.1; have _:=hh0.2.2.1; have _:=hh0.2.2.2; ifd (i40<(lines.length:Int)) (fun h2 _=>ai (by omega:ib i40 lines) (kc42 (lines.getD (Int.toNat i40) default) (by exact hpre1 _) (fun gv3 gv4=>ai (appr 1 Qh out [(⟨(F42 (lines.getD (Int.toNat i40) default)).1⟩:l52Cut)] fun _=>rfl) (ai (by (try simp only [lens]); omega:(out++[(⟨(F42 (lines.getD (Int.toNat i40) default)).1⟩:l52Cut)]).length*24≤140737488355328) (ai (iok (i40+1) (by omega)) (bk23_0 lines i0 m0 (out++[(⟨(F42 (lines.getD (Int.toNat i40) default)).1⟩:l52Cut)]) (i40+1) hl0 (Qe hI0 (condT h2 rfl)) (by refine ⟨?_,?_,?_⟩ <;> (simp only [lens,ib] at*<;> omega)))))))) (fun h2 _=>have hD0_5:Qyy lines=Lp.done (out,i40):=Qk hI0 (condF h2 rfl); fi23 lines out (finD hD0_5 rfl))) (i0.1-1) i0.2.1 i0.2.2 (un23_0 lines i0 hi0)))) (by kernel_rfl)
def F31 (c:l52Cut) (k:Int):ByteArray :=
 bif (decide (k<(c.w.length:Int))) then (c.w.getD (Int.toNat k) default) else (⟨#[]⟩:ByteArray)
def S31 (c:l52Cut) (k:Int):Spec:=⟨[.r (.g (Qh c)),.r (.c (.v (vI k)))],.v (.string (F31 c k)),0≤k⟩
theorem ok31 (c:l52Cut) (k:Int):(S31 c k).ok Tryz.prog 31 :=
 Qn mixed (fn:=Tryz.f31) (ct:=.seq .no (.seq (.seq .no (.cond (.seq .no .no) .no)) (.seq .no .no))) Tryz.func31 (fun (hpre0:0≤k)=>ifd (k<(c.w.length:Int)) (fun h1 _=>ai (by omega:ib k c.w) (fiS (c.w.getD (Int.toNat k) default) (F31 c k) (condT h1 rfl))) (fun h1 _=>fiS w13_ (F31 c k) (condF h1 rfl))) (by kernel_rfl)
theorem Yt (s:ByteArray):0≤(F100 s).1.Len∧(F100 s).1.Len≤16∧0≤(F100 s).1.Addr∧(F100 s).1.Addr≤65535:=by
 rw [Lg]
 cases h:pfxL s.data.toList with
 | none=>exact ⟨by decide,by decide,by decide,by decide⟩
 | some p =>
  obtain ⟨a,n⟩:=p
  have:=Qhc h
  show 0≤n∧n≤16∧0≤a∧a≤65535
  omega
def Qo (lines:List ByteArray):List Qb:=(Qa lines (⟨#[112,111,114,116]⟩:ByteArray)).map fun w=>(F100 (w.getD 2 default)).1
theorem as94 (lines:List ByteArray):F94 lines=(Qo lines):=by
 unfold F94
 have:=Ye (Qa lines (⟨#[112,111,114,116]⟩:ByteArray)) (fun (s:List Qb) w=>s++[(F100 (w.getD 2 default)).1]) (fun s i=>(s,i)) (Bn lines) (fun i s hi=>by
  simp only [Bn,ltD hi,cond_true,nn]; rfl) (fun s=>by simp only [Bn,geD,cond_false]) (fun r=>r) (fun (out,v12)=>out) []
 refine this.trans ?_
 rw [Zt,List.nil_append]; rfl
theorem Qiy (lines:List ByteArray):∀ p∈Qo lines,0≤p.Len∧p.Len≤16∧0≤p.Addr∧p.Addr≤65535:=fun p hp=>by
 obtain ⟨w,_,rfl⟩:=List.mem_map.1 hp
 exact Yt _
theorem Zo (lines:List ByteArray):∀ k:Nat,0≤((Qo lines).getD k default).Len∧((Qo lines).getD k default).Len≤16:=fun k=>by
 by_cases hk:k<(Qo lines).length
 ·have:=Qiy lines _ (Kh _ hk); omega
 ·rw [Wu _ (by omega)]; exact ⟨by decide,by decide⟩
theorem Zg (lines:List ByteArray) (n k:Nat):0≤(((Qo lines).take n).getD k default).Len∧(((Qo lines).take n).getD k default).Len≤16:=by
 by_cases hk:k<((Qo lines).take n).length
 ·have:=Qiy lines _ (List.mem_of_mem_take (Kh _ hk)); omega
 ·rw [Wu _ (by omega)]; exact ⟨by decide,by decide⟩
theorem Qwx:∀ k:Nat,(([]:List ByteArray).getD k default).size≤1048576:=fun k=>Nat.zero_le _
theorem Qmu {a:List ByteArray} {x:ByteArray} (h:∀ k:Nat,(a.getD k default).size≤1048576) (hx:x.size≤1048576):∀ k:Nat,((a++[x]).getD k default).size≤1048576:=fun k=>by
 rw [List.getD_eq_getElem?_getD,List.getElem?_append]
 split
 ·rw [← List.getD_eq_getElem?_getD]; exact h k
 ·cases hk:k-a.length with
  | zero=>exact hx
  | succ j=>exact Nat.zero_le _
theorem Up (lines:List ByteArray) (h:F22 lines=0) (n k:Nat) (hk:k<((Qa lines (⟨#[100,111,111,114]⟩:ByteArray)).take n).length):Ug (((Qa lines (⟨#[100,111,111,114]⟩:ByteArray)).take n).getD k default):=by
 rw [List.length_take] at hk
 have:=Uv lines h k (by omega)
 rw [List.getD_eq_getElem?_getD,List.getElem?_take,if_pos (by omega),← List.getD_eq_getElem?_getD]
 exact this
theorem as23 (lines:List ByteArray):F23 lines=(lines.map (fun l=>(⟨(F42 l).1⟩:l52Cut))):=by
 unfold F23
 have:=Ye lines (fun (s:List l52Cut) l=>s++[(⟨(F42 l).1⟩:l52Cut)]) (fun s i=>(s,i)) (Xl lines) (fun i s hi=>by
  simp only [Xl,ltD hi,cond_true,nn]; rfl) (fun s=>by simp only [Xl,geD,cond_false]) (fun r=>r) (fun (out,i40)=>out) []
 refine this.trans ?_
 rw [Zt,List.nil_append]
theorem Qgx {c:l52Cut} (h:∀ j:Nat,(c.w.getD j default).size≤1048576) (k:Int):(F31 c k).size≤1048576:=by
 unfold F31
 cases decide (k<(c.w.length:Int)) with
 | true=>exact h _
 | false=>exact Nat.zero_le _
theorem Va (all:List l52Cut) (h:∀ k j:Nat,((all.getD k default).w.getD j default).size≤1048576) (i:Nat) (k:Int):(F31 (all.getD i default) k).size≤1048576:=Qgx (h i) k
end Go.Proofs.YtahakkfbpnpimabGreatDoor
