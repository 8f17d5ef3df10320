/- A part of the proof of FnConfMay. Texts put together: VFF, PFF, PCL0, VCL, PCL, PK0, VK, PK1, VK2, PK2, PLP, VN0, PN0, VN, PN1N, PCK0, VCKA, PCKB, VCKC, VCKD, PCE0, PCE1, PCE2, PCHA, VCH, PCH, VSZ, PSZ. -/
import Derived.Test.YtabmhncnckahfaaGreatDoorRows
import Derived.Test.YtabmhncnckahfaaGreatDoorZC62C
namespace Go.Proofs.YtabmhncnckahfaaGreatDoor
open Go.RowKit
set_option maxRecDepth 100000
set_option linter.unusedVariables false
set_option linter.unusedSimpArgs false
theorem kc115 (word:ByteArray) {K_:Prop} (p0_:word.size≤1048576) (k_:K_):(word.size≤1048576)∧(Imp (.v (.string word)) (.v (.string word)))∧K_:=⟨p0_,Imp.refl _,k_⟩
abbrev kh115 (word:ByteArray):Hint false Tryz.prog:=.call 115 (S115 word) (ok115 word) none
def F165 (word:ByteArray) (p1:Int) (p2:Int):Bool :=
 (decide (p1≤(F115 word)∧(F115 word)≤p2))
def S165 (word:ByteArray) (p1:Int) (p2:Int):Spec:=⟨[.r (.c (.v (.string word))),.rp ([.v (vI p1)]),.rp ([.v (vI p2)])],.v (.bool (F165 word p1 p2)),word.size≤1048576⟩
theorem ok165 (word:ByteArray) (p1:Int) (p2:Int):(S165 word p1 p2).ok Tryz.prog 165 false :=
 fnG_ok mixed (fn:=Tryz.f165) (ct:=.seq .no (.seq (.reg [(1,kh115 word),(4,kh39af (F115 word) p1 p2)]) .no)) Tryz.func165 (fun (hpre0:word.size≤1048576)=>kc115 word (by omega) (kc39a (F115 word) p1 p2 (fiB (decide (p1≤(F115 word)∧(F115 word)≤p2)) (F165 word p1 p2) rfl))) (by kernel_rfl)
def F133 (low:Int) (high:Int):Unit :=
 ()
def S133 (low:Int) (high:Int):Spec:=⟨[.r (.c (.v (vI low))),.r (.c (.v (vI high)))],.cl 165 [.pt 3 [.v (vI low)],.pt 3 [.v (vI high)]],True⟩
theorem ok133 (low:Int) (high:Int):(S133 low high).ok Tryz.prog 133 :=
 fnG_ok mixed (fn:=Tryz.f133) (ct:=.seq .no (.seq .no .no)) Tryz.func133 (fun (_:True)=>(fun hF:(():Unit)=(F133 low high)=>ai (Imps.refl [.v (vI low)]) (ai (Imps.refl [.v (vI high)]) trivial)) rfl) (by kernel_rfl)
def F166 (word:ByteArray) (p1:List ByteArray):Bool :=
 (F75 p1 word)
def S166 (word:ByteArray) (p1:List ByteArray):Spec:=⟨[.r (.c (.v (.string word))),.rp ([.l 1 eStr p1])],.v (.bool (F166 word p1)),word.size≤1048576⟩
theorem ok166 (word:ByteArray) (p1:List ByteArray):(S166 word p1).ok Tryz.prog 166 :=
 fnG_ok mixed (fn:=Tryz.f166) (ct:=.seq .no (.seq (.reg [(2,kh75 p1 word)]) .no)) Tryz.func166 (fun (hpre0:word.size≤1048576)=>kc75 p1 word (fiB (F75 p1 word) (F166 word p1) rfl)) (by kernel_rfl)
def F137 (words:List ByteArray):Unit :=
 ()
def S137 (words:List ByteArray):Spec:=⟨[.ow (.l 1 eStr words) none],.cl 166 [.pt 26 [.l 1 eStr words]],True⟩
theorem ok137 (words:List ByteArray):(S137 words).ok Tryz.prog 137 :=
 fnG_ok mixed (fn:=Tryz.f137) (ct:=.seq .no (.seq .no .no)) Tryz.func137 (fun (_:True)=>(fun hF:(():Unit)=(F137 words)=>ai (Imps.refl [.l 1 eStr words]) trivial) rfl) (by kernel_rfl)
structure formR where
 word:ByteArray
 key:Int
 checks:SV
 deriving Inhabited
def eformR (x:formR):List Dat:=[.v (.string x.word),.v (vI x.key),.v (sv x.checks)]
def F140 (f:formR) (p1:ByteArray):Bool :=
 (!(f.word.toList==p1.toList))
def S140 (f:formR) (p1:ByteArray):Spec:=⟨[.r (.g (eformR f)),.rp ([.v (.string p1)])],.v (.bool (F140 f p1)),True⟩
theorem ok140 (f:formR) (p1:ByteArray):(S140 f p1).ok Tryz.prog 140 :=
 fnG_ok mixed (fn:=Tryz.f140) (ct:=.seq .no (.seq .no .no)) Tryz.func140 (fun (_:True)=>(fun hF:((!(f.word.toList==p1.toList)):Bool)=(F140 f p1)=>ai (congrArg (fun r:Bool=>(.bool r:Value)) hF) trivial) rfl) (by kernel_rfl)
def fsQ131 (Q:formR→Prop) (p:formR→Bool):FnSpec:=⟨formR,fun i=>[.g (pxH (eformR i) (Q i))],fun i=>.bool (p i)⟩
def F167_s0 (s:List formR) (f:formR→Bool):Int→Lp Int Int:=fun v8 =>
 bif (decide (v8<(s.length:Int))) then (bif (f (s.getD v8.toNat default)) then (.ret v8) else (.next (v8+1))) else (.done v8)
def F167 (s:List formR) (f:formR→Bool):Int :=
 (runL (F167_s0 s f) (((s.length:Int)-0).toNat+1) 0).fin (fun r=>r) (fun v8=>(-1))
def S167 (R:Int) (s:List formR) (f:formR→Bool) (Qf:formR→Prop):Spec:=⟨[.r (.c (.l 3 eformR s)),.fn (fsQ131 Qf f)],.v (vI R),(∀ k:Nat,k<s.length→Qf (s.getD k default))⟩
theorem ok167 (s:List formR) (f:formR→Bool) (Qf:formR→Prop):(S167 (F167 s f) s f Qf).ok Tryz.prog 167 false :=
 fnG_ok mixed (fn:=Tryz.f167) (ct:=.seqk [(0,0)] .no (.seq (.seqk [(0,0)] .no (.blk (.loop (ι:=Nat×Int) (fun i=>(fun (v8:Int)=>(⟨[(0,some (.h 0 0)),(1,some (.h 1 0)),(7,some (.v (vI (s.length:Int)))),(8,some (.v (vI v8)))],[(0,some (.shr none (.l 3 eformR s))),(1,some (.fn (fsQ131 Qf f)))],2⟩:St)) i.2) (fun i=>runL (F167_s0 s f) i.1 i.2=(runL (F167_s0 s f) (((s.length:Int)-0).toNat+1) 0)∧(fun (v8:Int)=>(Int.toNat ((s.length:Int)-v8)<i.1∧(0:Int)≤v8)) i.2) (fun i=>i.1) ((((s.length:Int)-0).toNat+1),0) (fun i=>(fun (v8:Int)=>(.seq .no (.seq (.cond .no .no) (.seq (.blk (.seq .no (.seq (.reg [(5,.fnv (fsQ131 Qf f) (s.getD v8.toNat default))]) (.cond (.seq .no .no) .no)))) (.reg [(0,.bnd)]))))) i.2)))) (.seq .no .no))) Tryz.func167 (fun (hpre0:∀ k:Nat,k<s.length→Qf (s.getD k default))=>kn s fun _=>kn s fun _=>ai (ai rfl (ai rfl (ai ir (ai rfl (ai (rfl:runL (F167_s0 s f) (((s.length:Int)-0).toNat+1) 0=(runL (F167_s0 s f) (((s.length:Int)-0).toNat+1) 0)) (ai (Nat.lt_succ_self _:Int.toNat ((s.length:Int)-0)<(((s.length:Int)-0).toNat+1)) (by omega:(0:Int)≤0)))))):((.int .i64 (s.length:Int):Value)=.int .i64 (s.length:Int))∧((.int .i64 0:Value)=.int .i64 0)∧(Imp (.l 3 eformR s) (.l 3 eformR s))∧(fsQ131 Qf f=fsQ131 Qf f)∧(runL (F167_s0 s f) (((s.length:Int)-0).toNat+1) 0=(runL (F167_s0 s f) (((s.length:Int)-0).toNat+1) 0)∧Int.toNat ((s.length:Int)-0)<(((s.length:Int)-0).toNat+1)∧(0:Int)≤0)) (fun (i0:Nat×Int) (hi0:runL (F167_s0 s f) i0.1 i0.2=(runL (F167_s0 s f) (((s.length:Int)-0).toNat+1) 0)∧(fun (v8:Int)=>(Int.toNat ((s.length:Int)-v8)<i0.1∧(0:Int)≤v8)) i0.2)=>(fun (m0:Nat) (v8:Int) (hI0:runL (F167_s0 s f) (m0+1) v8=(runL (F167_s0 s f) (((s.length:Int)-0).toNat+1) 0)) (_:Int.toNat ((s.length:Int)-v8)<m0+1) (hl0:m0<i0.1) (_:(0:Int)≤v8)=>ifd (v8<(s.length:Int)) (fun h2 _=>ai (by omega:ib v8 s) (ai (Eq.refl (fsQ131 Qf f)) (ai (Imps.pxH (ds:=eformR (s.getD v8.toNat default)) (hpre0 v8.toNat (by omega))) (ifb (f (s.getD v8.toNat default)) (fun h3=>(fun hF:(v8:Int)=(F167 s f)=>ai (congrArg (fun r:Int=>(.int .i64 r:Value)) hF) trivial) (finR (runL_ret hI0 (condT h2 (condT h3 rfl))) rfl)) (fun h3=>ai (iok (v8+1) (by omega)) (Exists.intro (p:=fun j:Nat×Int=>(fun (v8_:Int)=>(((.int .i64 (s.length:Int):Value)=.int .i64 (s.length:Int))∧((.int .i64 (v8+1):Value)=.int .i64 v8_)∧(Imp (.l 3 eformR s) (.l 3 eformR s))∧(fsQ131 Qf f=fsQ131 Qf f)∧((runL (F167_s0 s f) j.1 j.2=(runL (F167_s0 s f) (((s.length:Int)-0).toNat+1) 0)∧Int.toNat ((s.length:Int)-v8_)<j.1∧(0:Int)≤v8_)∧j.1<i0.1))) j.2) (m0,(v8+1)) (ai rfl (ai rfl (ai ir (ai rfl (ai (ai (runL_next hI0 (condT h2 (condF h3 rfl))) (ai (by omega:Int.toNat ((s.length:Int)-(v8+1))<m0) (by omega:(0:Int)≤(v8+1)))) hl0))))))))))) (fun h2 _=>(fun hD0_4:(runL (F167_s0 s f) (((s.length:Int)-0).toNat+1) 0)=Lp.done v8=>(fun hF:((-1):Int)=(F167 s f)=>ai (congrArg (fun r:Int=>(.int .i64 r:Value)) hF) trivial) (finD hD0_4 rfl)) (runL_done hI0 (condF h2 rfl)))) (i0.1-1) i0.2 (hd1 hi0.1 hi0.2.1) (hd2 hi0.2.1) (hd3 hi0.2.1) hi0.2.2)) (by kernel_rfl)
theorem as167 (s:List formR) (f:formR→Bool):F167 s f=(idxI f s):=by
 exact idx_loop f s (F167_s0 s f) (fun i=>rfl)
theorem oa167 (s:List formR) (f:formR→Bool) (Qf:formR→Prop):(S167 (idxI f s) s f Qf).ok Tryz.prog 167 false:=by
 intro hp; have h:=ok167 s f Qf hp; rw [as167 s f] at h; exact h
theorem g167_0 (s:List formR) (f:formR→Bool):(idxI f s)<(s.length:Int):=by
 exact idxI_lt f s
theorem g167_1 (s:List formR) (f:formR→Bool):-1≤(idxI f s):=by
 (show -1≤idxI f s; unfold idxI; cases first (fun k=>f (s.getD k default)) s.length <;> simp only [oix] <;> omega)
def F139_s0 (s:List formR) (del:formR→Bool):(Int×Int×List formR)→Lp (Int×Int×List formR) (List formR):=fun (i41,j1,xs) =>
 bif (decide (j1<(xs.length:Int))) then (bif (!(del (xs.getD j1.toNat default))) then (.next ((i41+1),(j1+1),(xs.set (i41).toNat (xs.getD j1.toNat default)))) else (.next (i41,(j1+1),xs))) else (.done (i41,j1,xs))
def F139_j0 (s:List formR) (del:formR→Bool):Lp (List formR×Int) (List formR) :=
 (runL (F139_s0 s del) (((s.length:Int)-((idxI del s)+1)).toNat+1) ((idxI del s),((idxI del s)+1),s)).fin Lp.ret (fun (i41,j1,xs)=>.done (xs,i41))
def F139 (s:List formR) (del:formR→Bool):List formR :=
 bif ((idxI del s)==(-1)) then s else ((F139_j0 s del).fin (fun r=>r) (fun (s1,i40)=>((s1.take i40.toNat++List.replicate (s1.drop i40.toNat).length ((⟨(⟨#[]⟩:ByteArray),0,(⟨none,0,0⟩:SV)⟩:formR):formR)++s1.drop (i40.toNat+(s1.drop i40.toNat).length)).take i40.toNat)))
def S139 (R:List formR) (s:List formR) (del:formR→Bool) (Qdel:formR→Prop):Spec:=⟨[.ow (.l 3 eformR s) none,.fn (fsQ131 Qdel del)],.ow (.l 3 eformR R),s.length≤1000000000∧(∀ k:Nat,k<s.length→Qdel (s.getD k default))⟩
abbrev q139_1 (xs:List formR) (i41:Int) (j1:Int):=(xs.set (i41).toNat (xs.getD j1.toNat default))
theorem ok139 (s:List formR) (del:formR→Bool) (Qdel:formR→Prop):(S139 (F139 s del) s del Qdel).ok Tryz.prog 139 false :=
 fnG_ok mixed (fn:=Tryz.f139) (ct:=.seqk [(0,0)] .no (.seq (.reg [(2,.call 167 (S167 (idxI del s) s del Qdel) (oa167 s del Qdel) none)]) (.seq (.seq .no (.cond (.seq .no .no) .no)) (.cut (ι:=List formR×Int) (fun j=>(fun (s1:List formR) (i40:Int)=>(⟨[(0,some (.h 0 0)),(5,some (.v (vI i40)))],[(0,some (.own 0 (.l 3 eformR s1)))],1⟩:St)) j.1 j.2) (fun j=>(fun (s1:List formR) (i40:Int)=>((F139_j0 s del)=Lp.done j∧(0≤i40∧i40≤(s1.length:Int)))) j.1 j.2) (.seqk [(0,0)] (.reg [(1,.bnd)]) (.blk (.loop (ι:=Nat×(Int×Int×List formR)) (fun i=>(fun (i41:Int) (j1:Int) (xs:List formR)=>(⟨[(0,some (.h 0 0)),(1,some (.h 1 0)),(5,some (.v (vI i41))),(6,some (.v (vI j1)))],[(0,some (.own 0 (.l 3 eformR xs))),(1,some (.fn (fsQ131 Qdel del)))],2⟩:St)) i.2.1 i.2.2.1 i.2.2.2) (fun i=>runL (F139_s0 s del) i.1 i.2=(runL (F139_s0 s del) (((s.length:Int)-((idxI del s)+1)).toNat+1) ((idxI del s),((idxI del s)+1),s))∧(fun (i41:Int) (j1:Int) (xs:List formR)=>(Int.toNat ((xs.length:Int)-j1)<i.1∧(0≤i41∧i41<j1)∧j1≤(xs.length:Int)∧xs.length≤1000000000∧(∀ k:Nat,j1≤(k:Int)→k<xs.length→Qdel (xs.getD k default))∧xs.length=s.length)) i.2.1 i.2.2.1 i.2.2.2) (fun i=>i.1) ((((s.length:Int)-((idxI del s)+1)).toNat+1),((idxI del s),((idxI del s)+1),s)) (fun i=>(fun (i41:Int) (j1:Int) (xs:List formR)=>(.seq (.seq .no (.cond .no .no)) (.seq (.blk (.seq .no (.seq (.reg [(2,.fnv (fsQ131 Qdel del) (xs.getD j1.toNat default))]) (.cond (.seq (.reg [(4,.dat (.l 3 eformR (q139_1 xs i41 j1)))]) (.reg [(1,.bnd)])) .no)))) (.reg [(1,.bnd)])))) i.2.1 i.2.2.1 i.2.2.2)))) (fun j=>(fun (s1:List formR) (i40:Int)=>(.seq (.reg [(2,.part),(3,.dat (.l 3 eformR (s1.take i40.toNat++List.replicate (s1.drop i40.toNat).length ((⟨w13_,0,(⟨none,0,0⟩:SV)⟩:formR):formR)++s1.drop (i40.toNat+(s1.drop i40.toNat).length))))]) (.seq (.reg [(2,.own)]) .no))) j.1 j.2))))) Tryz.func139 (fun (hp:s.length≤1000000000∧(∀ k:Nat,k<s.length→Qdel (s.getD k default)))=>have hpre0:=hp.1; have hpre1:=hp.2; kn s fun _=>ai (by assumption:∀ k:Nat,k<s.length→Qdel (s.getD k default)) (ai (Imp.refl (.l 3 eformR s)) (ai (Eq.refl (fsQ131 Qdel del)) (have gv1:(idxI del s)<(s.length:Int):=g167_0 s del; have gv2:-1≤(idxI del s):=g167_1 s del; ife (idxI del s) (-1) (fun h3 _=>(fun hF:(s:List formR)=(F139 s del)=>ai (Imp.of_eq (congrArg (fun r:List formR=>Dat.l 3 eformR r) hF)) trivial) (condT h3 rfl)) (fun h3 _=>ai (ai (iok ((idxI del s)+1) (by omega)) (kn s fun _=>ai (ai rfl (ai rfl (ai ir (ai rfl (ai (rfl:runL (F139_s0 s del) (((s.length:Int)-((idxI del s)+1)).toNat+1) ((idxI del s),((idxI del s)+1),s)=(runL (F139_s0 s del) (((s.length:Int)-((idxI del s)+1)).toNat+1) ((idxI del s),((idxI del s)+1),s))) (ai (Nat.lt_succ_self _:Int.toNat ((s.length:Int)-((idxI del s)+1))<(((s.length:Int)-((idxI del s)+1)).toNat+1)) (ai (by omega:0≤(idxI del s)∧(idxI del s)<((idxI del s)+1)) (ai (by omega:((idxI del s)+1)≤(s.length:Int)) (ai (by omega:s.length≤1000000000) (ai (by (intro k hk hk2; exact (by assumption:∀ k:Nat,k<s.length→Qdel (s.getD k default)) k hk2):∀ k:Nat,((idxI del s)+1)≤(k:Int)→k<s.length→Qdel (s.getD k default)) (by omega:s.length=s.length)))))))))):((.int .i64 (idxI del s):Value)=.int .i64 (idxI del s))∧((.int .i64 ((idxI del s)+1):Value)=.int .i64 ((idxI del s)+1))∧(Imp (.l 3 eformR s) (.l 3 eformR s))∧(fsQ131 Qdel del=fsQ131 Qdel del)∧(runL (F139_s0 s del) (((s.length:Int)-((idxI del s)+1)).toNat+1) ((idxI del s),((idxI del s)+1),s)=(runL (F139_s0 s del) (((s.length:Int)-((idxI del s)+1)).toNat+1) ((idxI del s),((idxI del s)+1),s))∧Int.toNat ((s.length:Int)-((idxI del s)+1))<(((s.length:Int)-((idxI del s)+1)).toNat+1)∧(0≤(idxI del s)∧(idxI del s)<((idxI del s)+1))∧((idxI del s)+1)≤(s.length:Int)∧s.length≤1000000000∧(∀ k:Nat,((idxI del s)+1)≤(k:Int)→k<s.length→Qdel (s.getD k default))∧s.length=s.length)) (fun (i0:Nat×(Int×Int×List formR)) (hi0:runL (F139_s0 s del) i0.1 i0.2=(runL (F139_s0 s del) (((s.length:Int)-((idxI del s)+1)).toNat+1) ((idxI del s),((idxI del s)+1),s))∧(fun (i41:Int) (j1:Int) (xs:List formR)=>(Int.toNat ((xs.length:Int)-j1)<i0.1∧(0≤i41∧i41<j1)∧j1≤(xs.length:Int)∧xs.length≤1000000000∧(∀ k:Nat,j1≤(k:Int)→k<xs.length→Qdel (xs.getD k default))∧xs.length=s.length)) i0.2.1 i0.2.2.1 i0.2.2.2)=>(fun (m0:Nat) (i41:Int) (j1:Int) (xs:List formR) (hI0:runL (F139_s0 s del) (m0+1) (i41,j1,xs)=(runL (F139_s0 s del) (((s.length:Int)-((idxI del s)+1)).toNat+1) ((idxI del s),((idxI del s)+1),s))) (_:Int.toNat ((xs.length:Int)-j1)<m0+1) (hl0:m0<i0.1) (_:0≤i41∧i41<j1) (_:j1≤(xs.length:Int)) (_:xs.length≤1000000000) (_:∀ k:Nat,j1≤(k:Int)→k<xs.length→Qdel (xs.getD k default)) (_:xs.length=s.length)=>ifd (j1<(xs.length:Int)) (fun h5 _=>ai (by omega:ib j1 xs) (ai (Eq.refl (fsQ131 Qdel del)) (ai (Imps.pxH (ds:=eformR (xs.getD j1.toNat default)) ((by assumption:∀ k:Nat,j1≤(k:Int)→k<xs.length→Qdel (xs.getD k default)) j1.toNat (by omega) (by omega))) (ifb (!(del (xs.getD j1.toNat default))) (fun h6=>have _:=(notET h6); ai (by omega:ib i41 xs) (ai (setr 3 eformR xs (i41).toNat (xs.getD j1.toNat default)) (ai (iok (i41+1) (by omega)) (ai (iok (j1+1) (by omega)) (Exists.intro (p:=fun j:Nat×(Int×Int×List formR)=>(fun (i41_:Int) (j1_:Int) (xs_:List formR)=>(((.int .i64 (i41+1):Value)=.int .i64 i41_)∧((.int .i64 (j1+1):Value)=.int .i64 j1_)∧(Imp (.l 3 eformR (q139_1 xs i41 j1)) (.l 3 eformR xs_))∧(fsQ131 Qdel del=fsQ131 Qdel del)∧((runL (F139_s0 s del) j.1 j.2=(runL (F139_s0 s del) (((s.length:Int)-((idxI del s)+1)).toNat+1) ((idxI del s),((idxI del s)+1),s))∧Int.toNat ((xs_.length:Int)-j1_)<j.1∧(0≤i41_∧i41_<j1_)∧j1_≤(xs_.length:Int)∧xs_.length≤1000000000∧(∀ k:Nat,j1_≤(k:Int)→k<xs_.length→Qdel (xs_.getD k default))∧xs_.length=s.length)∧j.1<i0.1))) j.2.1 j.2.2.1 j.2.2.2) (m0,((i41+1),(j1+1),(q139_1 xs i41 j1))) (ai rfl (ai rfl (ai ir (ai rfl (ai (ai (runL_next hI0 (condT h5 (condT h6 rfl))) (ai (by (simp only [lens,ib] at*<;> omega):Int.toNat (((q139_1 xs i41 j1).length:Int)-(j1+1))<m0) (ai (by omega:0≤(i41+1)∧(i41+1)<(j1+1)) (ai (by (simp only [lens,ib] at*<;> omega):(j1+1)≤((q139_1 xs i41 j1).length:Int)) (ai (by (simp only [lens,ib] at*<;> omega):(q139_1 xs i41 j1).length≤1000000000) (ai (by (intro k hk hk2; (rw [getD_set_ne _ _ _ _ (by omega)]; exact (by assumption:∀ k:Nat,j1≤(k:Int)→k<xs.length→Qdel (xs.getD k default)) k (by omega) (by simpa using hk2))):∀ k:Nat,(j1+1)≤(k:Int)→k<(q139_1 xs i41 j1).length→Qdel ((q139_1 xs i41 j1).getD k default)) (by (simp only [lens,ib] at*<;> omega):(q139_1 xs i41 j1).length=s.length))))))) hl0)))))))))) (fun h6=>have _:=(notEF h6); ai (iok (j1+1) (by omega)) (Exists.intro (p:=fun j:Nat×(Int×Int×List formR)=>(fun (i41_:Int) (j1_:Int) (xs_:List formR)=>(((.int .i64 i41:Value)=.int .i64 i41_)∧((.int .i64 (j1+1):Value)=.int .i64 j1_)∧(Imp (.l 3 eformR xs) (.l 3 eformR xs_))∧(fsQ131 Qdel del=fsQ131 Qdel del)∧((runL (F139_s0 s del) j.1 j.2=(runL (F139_s0 s del) (((s.length:Int)-((idxI del s)+1)).toNat+1) ((idxI del s),((idxI del s)+1),s))∧Int.toNat ((xs_.length:Int)-j1_)<j.1∧(0≤i41_∧i41_<j1_)∧j1_≤(xs_.length:Int)∧xs_.length≤1000000000∧(∀ k:Nat,j1_≤(k:Int)→k<xs_.length→Qdel (xs_.getD k default))∧xs_.length=s.length)∧j.1<i0.1))) j.2.1 j.2.2.1 j.2.2.2) (m0,(i41,(j1+1),xs)) (ai rfl (ai rfl (ai ir (ai rfl (ai (ai (runL_next hI0 (condT h5 (condF h6 rfl))) (ai (by omega:Int.toNat ((xs.length:Int)-(j1+1))<m0) (ai (by omega:0≤i41∧i41<(j1+1)) (ai (by omega:(j1+1)≤(xs.length:Int)) (ai (by omega:xs.length≤1000000000) (ai (by (intro k hk hk2; exact (by assumption:∀ k:Nat,j1≤(k:Int)→k<xs.length→Qdel (xs.getD k default)) k (by omega) hk2):∀ k:Nat,(j1+1)≤(k:Int)→k<xs.length→Qdel (xs.getD k default)) (by omega:xs.length=s.length))))))) hl0))))))))))) (fun h5 _=>(fun hD0_7:(runL (F139_s0 s del) (((s.length:Int)-((idxI del s)+1)).toNat+1) ((idxI del s),((idxI del s)+1),s))=Lp.done (i41,j1,xs)=>Exists.intro (p:=fun j:List formR×Int=>(fun (s1_:List formR) (i40_:Int)=>(((.int .i64 i41:Value)=.int .i64 i40_)∧(Imp (.l 3 eformR xs) (.l 3 eformR s1_))∧(F139_j0 s del)=Lp.done j∧(0≤i40_∧i40_≤(s1_.length:Int)))) j.1 j.2) (xs,i41) (ai rfl (ai ir (ai (Eq.symm (finD hD0_7 rfl)) (by omega:0≤i41∧i41≤(xs.length:Int)))))) (runL_done hI0 (condF h5 rfl)))) (i0.1-1) i0.2.1 i0.2.2.1 i0.2.2.2 (hd1 hi0.1 hi0.2.1) (hd2 hi0.2.1) (hd3 hi0.2.1) hi0.2.2.1 hi0.2.2.2.1 hi0.2.2.2.2.1 hi0.2.2.2.2.2.1 hi0.2.2.2.2.2.2))) (fun (j:List formR×Int) (hj:(fun (s1:List formR) (i40:Int)=>((F139_j0 s del)=Lp.done j∧(0≤i40∧i40≤(s1.length:Int)))) j.1 j.2)=>(fun (s1:List formR) (i40:Int) (hJ0_8:(F139_j0 s del)=Lp.done (s1,i40)) (_:0≤i40∧i40≤(s1.length:Int))=>ai (by omega:0≤i40∧i40≤(s1.length:Int)∧(s1.length:Int)≤(s1.length:Int)) (ai (ClearOK.mk eformR s1 ((⟨w13_,0,(⟨none,0,0⟩:SV)⟩:formR):formR) rfl (fun y e he=>by simp only [eformR,List.mem_cons,List.not_mem_nil,or_false] at he; rcases he with rfl | rfl | rfl <;> exact ⟨_,rfl⟩):ClearOK (.l 3 eformR s1) i40.toNat (s1.drop i40.toNat).length 3 [.string w13_,.int .i64 0,.slice none 0 0] (.l 3 eformR (s1.take i40.toNat++List.replicate (s1.drop i40.toNat).length ((⟨w13_,0,(⟨none,0,0⟩:SV)⟩:formR):formR)++s1.drop (i40.toNat+(s1.drop i40.toNat).length)))) (ai (by (simp only [lens,ib] at*<;> omega):0≤(0:Int)∧(0:Int)≤i40∧i40≤((s1.take i40.toNat++List.replicate (s1.drop i40.toNat).length ((⟨w13_,0,(⟨none,0,0⟩:SV)⟩:formR):formR)++s1.drop (i40.toNat+(s1.drop i40.toNat).length)).length:Int)) ((fun hF:(((s1.take i40.toNat++List.replicate (s1.drop i40.toNat).length ((⟨w13_,0,(⟨none,0,0⟩:SV)⟩:formR):formR)++s1.drop (i40.toNat+(s1.drop i40.toNat).length)).take i40.toNat):List formR)=(F139 s del)=>ai (Imp.of_eq (congrArg (fun r:List formR=>Dat.l 3 eformR r) hF)) trivial) (condF h3 (finD hJ0_8 rfl)))))) j.1 j.2 hj.1 hj.2)))))) (by kernel_rfl)
theorem as139 (s:List formR) (del:formR→Bool):F139 s del=(s.filter (fun x=>!(del x))):=by
 exact del_loop del s _ (F139_s0 s del) (fun i j xs=>rfl)
theorem oa139 (s:List formR) (del:formR→Bool) (Qdel:formR→Prop):(S139 (s.filter (fun x=>!(del x))) s del Qdel).ok Tryz.prog 139 false:=by
 intro hp; have h:=ok139 s del Qdel hp; rw [as139 s del] at h; exact h
def fsB64 (p:ByteArray→Bool):FnSpec:=⟨ByteArray,fun i=>[.c (.x (BX i 1048576))],fun i=>.bool (p i)⟩
def eFn64 (p:ByteArray→Bool):List Dat:=[.x (FnX Tryz.prog (fsB64 p))]
structure form where
 word:ByteArray
 key:Int
 checks:List (ByteArray→Bool)
 deriving Inhabited
def eform (x:form):List Dat:=[.v (.string x.word),.v (vI x.key),.l 1 eFn64 x.checks]
theorem kc133 (low:Int) (high:Int) {K_:Prop} (k_:K_):(True)∧(Imp (.v (vI low)) (.v (vI low)))∧(Imp (.v (vI high)) (.v (vI high)))∧K_:=⟨trivial,Imp.refl _,Imp.refl _,k_⟩
theorem kc137 (words:List ByteArray) {K_:Prop} (k_:K_):(True)∧(Imp (.l 1 eStr words) (.l 1 eStr words))∧K_:=⟨trivial,Imp.refl _,k_⟩
abbrev kh133f (low:Int) (high:Int):Hint false Tryz.prog:=.call 133 (S133 low high) ((ok133 low high).to false) none
abbrev kh137f (words:List ByteArray):Hint false Tryz.prog:=.call 137 (S137 words) ((ok137 words).to false) none
def raw87 (x:Nat→SV):List formR:=[⟨(⟨#[104,111,115,116]⟩:ByteArray),1,x 0⟩,⟨(⟨#[117,115,101,114]⟩:ByteArray),2,x 1⟩,⟨(⟨#[112,111,114,116]⟩:ByteArray),2,x 2⟩,⟨(⟨#[112,111,114,116]⟩:ByteArray),2,x 3⟩,⟨(⟨#[114,117,108,101]⟩:ByteArray),3,x 4⟩,⟨(⟨#[114,111,117,116,101]⟩:ByteArray),3,x 5⟩,⟨(⟨#[112,101,101,114]⟩:ByteArray),2,x 6⟩,⟨(⟨#[110,97,116]⟩:ByteArray),1,x 7⟩,⟨(⟨#[100,111,111,114]⟩:ByteArray),3,x 8⟩]
def all87:List form:=[⟨(⟨#[104,111,115,116]⟩:ByteArray),1,[(fun x0=>F134 x0)]⟩,⟨(⟨#[117,115,101,114]⟩:ByteArray),2,[(fun x0=>F134 x0),(fun x0=>F135 x0)]⟩,⟨(⟨#[112,111,114,116]⟩:ByteArray),2,[(fun x0=>F165 x0 0 7),(fun x0=>F136 x0)]⟩,⟨(⟨#[112,111,114,116]⟩:ByteArray),2,[(fun x0=>F165 x0 0 7),(fun x0=>F136 x0),(fun x0=>F166 x0 ([(⟨#[105,110]⟩:ByteArray)]:List ByteArray)),(fun x0=>F134 x0)]⟩,⟨(⟨#[114,117,108,101]⟩:ByteArray),3,[(fun x0=>F134 x0),(fun x0=>F165 x0 0 99),(fun x0=>F166 x0 ([(⟨#[112,101,114,109,105,116]⟩:ByteArray),(⟨#[100,101,110,121]⟩:ByteArray)]:List ByteArray)),(fun x0=>F136 x0),(fun x0=>F136 x0),(fun x0=>F165 x0 0 7)]⟩,⟨(⟨#[114,111,117,116,101]⟩:ByteArray),3,[(fun x0=>F136 x0),(fun x0=>F138 x0)]⟩,⟨(⟨#[112,101,101,114]⟩:ByteArray),2,[(fun x0=>F138 x0),(fun x0=>F165 x0 1 9),(fun x0=>F165 x0 1 999999)]⟩,⟨(⟨#[110,97,116]⟩:ByteArray),1,[(fun x0=>F136 x0),(fun x0=>F138 x0),(fun x0=>F165 x0 1 65535),(fun x0=>F165 x0 1 65535)]⟩,⟨(⟨#[100,111,111,114]⟩:ByteArray),3,[(fun x0=>F165 x0 1 7),(fun x0=>F165 x0 1 65535),(fun x0=>F138 x0),(fun x0=>F165 x0 1 65535)]⟩]
def know87 (x:Nat→SV):List (Value×Dat):=[(sv (x 0),.l 1 eFn64 [(fun x0=>F134 x0)]),(sv (x 1),.l 1 eFn64 [(fun x0=>F134 x0),(fun x0=>F135 x0)]),(sv (x 2),.l 1 eFn64 [(fun x0=>F165 x0 0 7),(fun x0=>F136 x0)]),(sv (x 3),.l 1 eFn64 [(fun x0=>F165 x0 0 7),(fun x0=>F136 x0),(fun x0=>F166 x0 ([(⟨#[105,110]⟩:ByteArray)]:List ByteArray)),(fun x0=>F134 x0)]),(sv (x 4),.l 1 eFn64 [(fun x0=>F134 x0),(fun x0=>F165 x0 0 99),(fun x0=>F166 x0 ([(⟨#[112,101,114,109,105,116]⟩:ByteArray),(⟨#[100,101,110,121]⟩:ByteArray)]:List ByteArray)),(fun x0=>F136 x0),(fun x0=>F136 x0),(fun x0=>F165 x0 0 7)]),(sv (x 5),.l 1 eFn64 [(fun x0=>F136 x0),(fun x0=>F138 x0)]),(sv (x 6),.l 1 eFn64 [(fun x0=>F138 x0),(fun x0=>F165 x0 1 9),(fun x0=>F165 x0 1 999999)]),(sv (x 7),.l 1 eFn64 [(fun x0=>F136 x0),(fun x0=>F138 x0),(fun x0=>F165 x0 1 65535),(fun x0=>F165 x0 1 65535)]),(sv (x 8),.l 1 eFn64 [(fun x0=>F165 x0 1 7),(fun x0=>F165 x0 1 65535),(fun x0=>F138 x0),(fun x0=>F165 x0 1 65535)])]
def fh134:FnH Tryz.prog:=⟨true,134,fsB64 (fun x0=>F134 x0),[],rfl,True,fun i=>ok_bx (ok134 i)⟩
theorem ca134:callable Tryz.prog 134=true:=by kernel_rfl
def fh135:FnH Tryz.prog:=⟨true,135,fsB64 (fun x0=>F135 x0),[],rfl,True,fun i=>ok_bx (ok135 i)⟩
theorem ca135:callable Tryz.prog 135=true:=by kernel_rfl
def fh136:FnH Tryz.prog:=⟨false,136,fsB64 (fun x0=>F136 x0),[],rfl,True,fun i=>ok_bx (ok136 i)⟩
theorem ca136:callable Tryz.prog 136=true:=by kernel_rfl
def fh138:FnH Tryz.prog:=⟨false,138,fsB64 (fun x0=>F138 x0),[],rfl,True,fun i=>ok_bx (ok138 i)⟩
theorem ca138:callable Tryz.prog 138=true:=by kernel_rfl
def fh165 (a b:Int):FnH Tryz.prog:=⟨false,165,fsB64 (fun x0=>F165 x0 a b),[.rp [.v (vI a)],.rp [.v (vI b)]],rfl,True,fun i=>ok_bx (ok165 i a b)⟩
theorem ca165:callable Tryz.prog 165=true:=by kernel_rfl
def fh166 (l:List ByteArray):FnH Tryz.prog:=⟨true,166,fsB64 (fun x0=>F166 x0 l),[.rp [.l 1 eStr l]],rfl,True,fun i=>ok_bx (ok166 i l)⟩
theorem ca166:callable Tryz.prog 166=true:=by kernel_rfl
theorem hk87_0 (word:ByteArray):HandOK Tryz.prog 45 (fun _:Unit=>(⟨[(1,some (.p 0 0)),(5,some (.h 1 0)),(8,some (.h 2 0))],[(0,some (.box 9 [.v (.string word)])),(1,some (.arr 9 [.v (.string (⟨#[104,111,115,116]⟩:ByteArray)),.v (vI 1),.h 2 0,.v (.string (⟨#[117,115,101,114]⟩:ByteArray)),.v (vI 2),.h 3 0,.v (.string (⟨#[112,111,114,116]⟩:ByteArray)),.v (vI 2),.h 4 0,.v (.string (⟨#[112,111,114,116]⟩:ByteArray)),.v (vI 2),.h 7 0,.v (.string (⟨#[114,117,108,101]⟩:ByteArray)),.v (vI 3),.h 12 0,.v (.string (⟨#[114,111,117,116,101]⟩:ByteArray)),.v (vI 3),.h 19 0,.v (.string (⟨#[112,101,101,114]⟩:ByteArray)),.v (vI 2),.h 20 0,.v (.string (⟨#[110,97,116]⟩:ByteArray)),.v (vI 1),.h 25 0,.v (.string (⟨#[100,111,111,114]⟩:ByteArray)),.v (vI 3),.h 28 0])),(2,some (.arr 1 [.cl 134 []])),(3,some (.arr 2 [.cl 134 [],.cl 135 []])),(4,some (.arr 2 [.cl 165 [.p 5 0,.p 6 0],.cl 136 []])),(5,some (.box 3 [.v (vI 0)])),(6,some (.box 3 [.v (vI 7)])),(7,some (.arr 4 [.cl 165 [.p 8 0,.p 9 0],.cl 136 [],.cl 166 [.p 10 0],.cl 134 []])),(8,some (.box 3 [.v (vI 0)])),(9,some (.box 3 [.v (vI 7)])),(10,some (.box 26 [.h 11 0])),(11,some (.own 11 (.l 1 eStr ([(⟨#[105,110]⟩:ByteArray)]:List ByteArray)))),(12,some (.arr 6 [.cl 134 [],.cl 165 [.p 13 0,.p 14 0],.cl 166 [.p 15 0],.cl 136 [],.cl 136 [],.cl 165 [.p 17 0,.p 18 0]])),(13,some (.box 3 [.v (vI 0)])),(14,some (.box 3 [.v (vI 99)])),(15,some (.box 26 [.h 16 0])),(16,some (.own 16 (.l 1 eStr ([(⟨#[112,101,114,109,105,116]⟩:ByteArray),(⟨#[100,101,110,121]⟩:ByteArray)]:List ByteArray)))),(17,some (.box 3 [.v (vI 0)])),(18,some (.box 3 [.v (vI 7)])),(19,some (.arr 2 [.cl 136 [],.cl 138 []])),(20,some (.arr 3 [.cl 138 [],.cl 165 [.p 21 0,.p 22 0],.cl 165 [.p 23 0,.p 24 0]])),(21,some (.box 3 [.v (vI 1)])),(22,some (.box 3 [.v (vI 9)])),(23,some (.box 3 [.v (vI 1)])),(24,some (.box 3 [.v (vI 999999)])),(25,some (.arr 4 [.cl 136 [],.cl 138 [],.cl 165 [.p 26 0,.p 27 0],.cl 165 [.p 26 0,.p 27 0]])),(26,some (.box 3 [.v (vI 1)])),(27,some (.box 3 [.v (vI 65535)])),(28,some (.arr 4 [.cl 165 [.p 29 0,.p 30 0],.cl 165 [.p 26 0,.p 27 0],.cl 138 [],.cl 165 [.p 26 0,.p 27 0]])),(29,some (.box 3 [.v (vI 1)])),(30,some (.box 3 [.v (vI 7)]))],31⟩:St)) (fun _=>True) (fun x:Nat→SV=>(⟨[(1,some (.p 0 0)),(5,some (.h 1 0)),(8,some (.h 2 0))],[(0,some (.box 9 [.v (.string word)])),(1,some (.own 1 (.l 3 eformR (raw87 x)))),(2,some (.own 2 (.x (LX (know87 x)))))],31⟩:St)) (fun _=>True):=by
 intro ψ IN w0 w a i _ H
 obtain ⟨β,φ,dom,V⟩:=H
 have R:=V.rel
 have hall:allMod (fsG (⟨[(1,some (.p 0 0)),(5,some (.h 1 0)),(8,some (.h 2 0))],[(0,some (.box 9 [.v (.string word)])),(1,some (.arr 9 [.v (.string (⟨#[104,111,115,116]⟩:ByteArray)),.v (vI 1),.h 2 0,.v (.string (⟨#[117,115,101,114]⟩:ByteArray)),.v (vI 2),.h 3 0,.v (.string (⟨#[112,111,114,116]⟩:ByteArray)),.v (vI 2),.h 4 0,.v (.string (⟨#[112,111,114,116]⟩:ByteArray)),.v (vI 2),.h 7 0,.v (.string (⟨#[114,117,108,101]⟩:ByteArray)),.v (vI 3),.h 12 0,.v (.string (⟨#[114,111,117,116,101]⟩:ByteArray)),.v (vI 3),.h 19 0,.v (.string (⟨#[112,101,101,114]⟩:ByteArray)),.v (vI 2),.h 20 0,.v (.string (⟨#[110,97,116]⟩:ByteArray)),.v (vI 1),.h 25 0,.v (.string (⟨#[100,111,111,114]⟩:ByteArray)),.v (vI 3),.h 28 0])),(2,some (.arr 1 [.cl 134 []])),(3,some (.arr 2 [.cl 134 [],.cl 135 []])),(4,some (.arr 2 [.cl 165 [.p 5 0,.p 6 0],.cl 136 []])),(5,some (.box 3 [.v (vI 0)])),(6,some (.box 3 [.v (vI 7)])),(7,some (.arr 4 [.cl 165 [.p 8 0,.p 9 0],.cl 136 [],.cl 166 [.p 10 0],.cl 134 []])),(8,some (.box 3 [.v (vI 0)])),(9,some (.box 3 [.v (vI 7)])),(10,some (.box 26 [.h 11 0])),(11,some (.own 11 (.l 1 eStr ([(⟨#[105,110]⟩:ByteArray)]:List ByteArray)))),(12,some (.arr 6 [.cl 134 [],.cl 165 [.p 13 0,.p 14 0],.cl 166 [.p 15 0],.cl 136 [],.cl 136 [],.cl 165 [.p 17 0,.p 18 0]])),(13,some (.box 3 [.v (vI 0)])),(14,some (.box 3 [.v (vI 99)])),(15,some (.box 26 [.h 16 0])),(16,some (.own 16 (.l 1 eStr ([(⟨#[112,101,114,109,105,116]⟩:ByteArray),(⟨#[100,101,110,121]⟩:ByteArray)]:List ByteArray)))),(17,some (.box 3 [.v (vI 0)])),(18,some (.box 3 [.v (vI 7)])),(19,some (.arr 2 [.cl 136 [],.cl 138 []])),(20,some (.arr 3 [.cl 138 [],.cl 165 [.p 21 0,.p 22 0],.cl 165 [.p 23 0,.p 24 0]])),(21,some (.box 3 [.v (vI 1)])),(22,some (.box 3 [.v (vI 9)])),(23,some (.box 3 [.v (vI 1)])),(24,some (.box 3 [.v (vI 999999)])),(25,some (.arr 4 [.cl 136 [],.cl 138 [],.cl 165 [.p 26 0,.p 27 0],.cl 165 [.p 26 0,.p 27 0]])),(26,some (.box 3 [.v (vI 1)])),(27,some (.box 3 [.v (vI 65535)])),(28,some (.arr 4 [.cl 165 [.p 29 0,.p 30 0],.cl 165 [.p 26 0,.p 27 0],.cl 138 [],.cl 165 [.p 26 0,.p 27 0]])),(29,some (.box 3 [.v (vI 1)])),(30,some (.box 3 [.v (vI 7)]))],31⟩:St).fs) [2,3,4,5,6,7,8,9,10,11,12,13,14,15,16,17,18,19,20,21,22,23,24,25,26,27,28,29,30]=true:=rfl
 have hS:∀ id∈[2,3,4,5,6,7,8,9,10,11,12,13,14,15,16,17,18,19,20,21,22,23,24,25,26,27,28,29,30],∀ b∈φ id,b∈[2,3,4,5,6,7,8,9,10,11,12,13,14,15,16,17,18,19,20,21,22,23,24,25,26,27,28,29,30].flatMap φ:=fun id hid b hb=>List.mem_flatMap.2 ⟨id,hid,hb⟩
 have hlt:=R.flat_lt (allMod_ok hall)
 have e2:=arr_sv R (show fsG _ 2=_ from rfl)
 have e3:=arr_sv R (show fsG _ 3=_ from rfl)
 have e4:=arr_sv R (show fsG _ 4=_ from rfl)
 have e7:=arr_sv R (show fsG _ 7=_ from rfl)
 have e12:=arr_sv R (show fsG _ 12=_ from rfl)
 have e19:=arr_sv R (show fsG _ 19=_ from rfl)
 have e20:=arr_sv R (show fsG _ 20=_ from rfl)
 have e25:=arr_sv R (show fsG _ 25=_ from rfl)
 have e28:=arr_sv R (show fsG _ 28=_ from rfl)
 have he:([.v (.string (⟨#[104,111,115,116]⟩:ByteArray)),.v (vI 1),.v (sv (toSV (β 2 0))),.v (.string (⟨#[117,115,101,114]⟩:ByteArray)),.v (vI 2),.v (sv (toSV (β 3 0))),.v (.string (⟨#[112,111,114,116]⟩:ByteArray)),.v (vI 2),.v (sv (toSV (β 4 0))),.v (.string (⟨#[112,111,114,116]⟩:ByteArray)),.v (vI 2),.v (sv (toSV (β 7 0))),.v (.string (⟨#[114,117,108,101]⟩:ByteArray)),.v (vI 3),.v (sv (toSV (β 12 0))),.v (.string (⟨#[114,111,117,116,101]⟩:ByteArray)),.v (vI 3),.v (sv (toSV (β 19 0))),.v (.string (⟨#[112,101,101,114]⟩:ByteArray)),.v (vI 2),.v (sv (toSV (β 20 0))),.v (.string (⟨#[110,97,116]⟩:ByteArray)),.v (vI 1),.v (sv (toSV (β 25 0))),.v (.string (⟨#[100,111,111,114]⟩:ByteArray)),.v (vI 3),.v (sv (toSV (β 28 0)))]:List Dat)=[.v (.string (⟨#[104,111,115,116]⟩:ByteArray)),.v (vI 1),.v (β 2 0),.v (.string (⟨#[117,115,101,114]⟩:ByteArray)),.v (vI 2),.v (β 3 0),.v (.string (⟨#[112,111,114,116]⟩:ByteArray)),.v (vI 2),.v (β 4 0),.v (.string (⟨#[112,111,114,116]⟩:ByteArray)),.v (vI 2),.v (β 7 0),.v (.string (⟨#[114,117,108,101]⟩:ByteArray)),.v (vI 3),.v (β 12 0),.v (.string (⟨#[114,111,117,116,101]⟩:ByteArray)),.v (vI 3),.v (β 19 0),.v (.string (⟨#[112,101,101,114]⟩:ByteArray)),.v (vI 2),.v (β 20 0),.v (.string (⟨#[110,97,116]⟩:ByteArray)),.v (vI 1),.v (β 25 0),.v (.string (⟨#[100,111,111,114]⟩:ByteArray)),.v (vI 3),.v (β 28 0)]:=by rw [← e2,← e3,← e4,← e7,← e12,← e19,← e20,← e25,← e28]
 refine ⟨fun k=>toSV (β (([2,3,4,7,12,19,20,25,28]:List Nat).getD k 0) 0),trivial,pack3 (bx:=[.string word]) (rest:=[2,3,4,5,6,7,8,9,10,11,12,13,14,15,16,17,18,19,20,21,22,23,24,25,26,27,28,29,30]) V rfl ⟨_,rfl,rfl⟩ hall (by decide) (R.ok 2 _ rfl).1 (arr_own R (show fsG _ 1=_ from rfl) rfl (by decide) (fun _=>rfl) he) (fun hnd _=>⟨⟨R.all1 2 0,?_⟩,hnd,hlt⟩)⟩
 exact ⟨RdV.at_sv e2 (arr_fns R (F:=fsB64) (show fsG _ 2=_ from rfl) rfl (by decide) (fun _=>rfl) (hS 2 (by decide)) ⟨_,_,rfl,cl_none fh134 rfl trivial hlt ca134 rfl,rfl⟩),
  RdV.at_sv e3 (arr_fns R (F:=fsB64) (show fsG _ 3=_ from rfl) rfl (by decide) (fun _=>rfl) (hS 3 (by decide)) ⟨_,_,rfl,cl_none fh134 rfl trivial hlt ca134 rfl,⟨_,_,rfl,cl_none fh135 rfl trivial hlt ca135 rfl,rfl⟩⟩),
  RdV.at_sv e4 (arr_fns R (F:=fsB64) (show fsG _ 4=_ from rfl) rfl (by decide) (fun _=>rfl) (hS 4 (by decide)) ⟨_,_,rfl,cl_two R (fh165 0 7) (show fsG _ 5=_ from rfl) (show fsG _ 6=_ from rfl) rfl trivial (hS 5 (by decide)) (hS 6 (by decide)) hlt ca165 rfl rfl rfl,⟨_,_,rfl,cl_none fh136 rfl trivial hlt ca136 rfl,rfl⟩⟩),
  RdV.at_sv e7 (arr_fns R (F:=fsB64) (show fsG _ 7=_ from rfl) rfl (by decide) (fun _=>rfl) (hS 7 (by decide)) ⟨_,_,rfl,cl_two R (fh165 0 7) (show fsG _ 8=_ from rfl) (show fsG _ 9=_ from rfl) rfl trivial (hS 8 (by decide)) (hS 9 (by decide)) hlt ca165 rfl rfl rfl,⟨_,_,rfl,cl_none fh136 rfl trivial hlt ca136 rfl,⟨_,_,rfl,cl_own R (fh166 ([(⟨#[105,110]⟩:ByteArray)]:List ByteArray)) (show fsG _ 10=_ from rfl) (show fsG _ 11=_ from rfl) rfl trivial (hS 10 (by decide)) (hS 11 (by decide)) hlt ca166 rfl,⟨_,_,rfl,cl_none fh134 rfl trivial hlt ca134 rfl,rfl⟩⟩⟩⟩),
  RdV.at_sv e12 (arr_fns R (F:=fsB64) (show fsG _ 12=_ from rfl) rfl (by decide) (fun _=>rfl) (hS 12 (by decide)) ⟨_,_,rfl,cl_none fh134 rfl trivial hlt ca134 rfl,⟨_,_,rfl,cl_two R (fh165 0 99) (show fsG _ 13=_ from rfl) (show fsG _ 14=_ from rfl) rfl trivial (hS 13 (by decide)) (hS 14 (by decide)) hlt ca165 rfl rfl rfl,⟨_,_,rfl,cl_own R (fh166 ([(⟨#[112,101,114,109,105,116]⟩:ByteArray),(⟨#[100,101,110,121]⟩:ByteArray)]:List ByteArray)) (show fsG _ 15=_ from rfl) (show fsG _ 16=_ from rfl) rfl trivial (hS 15 (by decide)) (hS 16 (by decide)) hlt ca166 rfl,⟨_,_,rfl,cl_none fh136 rfl trivial hlt ca136 rfl,⟨_,_,rfl,cl_none fh136 rfl trivial hlt ca136 rfl,⟨_,_,rfl,cl_two R (fh165 0 7) (show fsG _ 17=_ from rfl) (show fsG _ 18=_ from rfl) rfl trivial (hS 17 (by decide)) (hS 18 (by decide)) hlt ca165 rfl rfl rfl,rfl⟩⟩⟩⟩⟩⟩),
  RdV.at_sv e19 (arr_fns R (F:=fsB64) (show fsG _ 19=_ from rfl) rfl (by decide) (fun _=>rfl) (hS 19 (by decide)) ⟨_,_,rfl,cl_none fh136 rfl trivial hlt ca136 rfl,⟨_,_,rfl,cl_none fh138 rfl trivial hlt ca138 rfl,rfl⟩⟩),
  RdV.at_sv e20 (arr_fns R (F:=fsB64) (show fsG _ 20=_ from rfl) rfl (by decide) (fun _=>rfl) (hS 20 (by decide)) ⟨_,_,rfl,cl_none fh138 rfl trivial hlt ca138 rfl,⟨_,_,rfl,cl_two R (fh165 1 9) (show fsG _ 21=_ from rfl) (show fsG _ 22=_ from rfl) rfl trivial (hS 21 (by decide)) (hS 22 (by decide)) hlt ca165 rfl rfl rfl,⟨_,_,rfl,cl_two R (fh165 1 999999) (show fsG _ 23=_ from rfl) (show fsG _ 24=_ from rfl) rfl trivial (hS 23 (by decide)) (hS 24 (by decide)) hlt ca165 rfl rfl rfl,rfl⟩⟩⟩),
  RdV.at_sv e25 (arr_fns R (F:=fsB64) (show fsG _ 25=_ from rfl) rfl (by decide) (fun _=>rfl) (hS 25 (by decide)) ⟨_,_,rfl,cl_none fh136 rfl trivial hlt ca136 rfl,⟨_,_,rfl,cl_none fh138 rfl trivial hlt ca138 rfl,⟨_,_,rfl,cl_two R (fh165 1 65535) (show fsG _ 26=_ from rfl) (show fsG _ 27=_ from rfl) rfl trivial (hS 26 (by decide)) (hS 27 (by decide)) hlt ca165 rfl rfl rfl,⟨_,_,rfl,cl_two R (fh165 1 65535) (show fsG _ 26=_ from rfl) (show fsG _ 27=_ from rfl) rfl trivial (hS 26 (by decide)) (hS 27 (by decide)) hlt ca165 rfl rfl rfl,rfl⟩⟩⟩⟩),
  RdV.at_sv e28 (arr_fns R (F:=fsB64) (show fsG _ 28=_ from rfl) rfl (by decide) (fun _=>rfl) (hS 28 (by decide)) ⟨_,_,rfl,cl_two R (fh165 1 7) (show fsG _ 29=_ from rfl) (show fsG _ 30=_ from rfl) rfl trivial (hS 29 (by decide)) (hS 30 (by decide)) hlt ca165 rfl rfl rfl,⟨_,_,rfl,cl_two R (fh165 1 65535) (show fsG _ 26=_ from rfl) (show fsG _ 27=_ from rfl) rfl trivial (hS 26 (by decide)) (hS 27 (by decide)) hlt ca165 rfl rfl rfl,⟨_,_,rfl,cl_none fh138 rfl trivial hlt ca138 rfl,⟨_,_,rfl,cl_two R (fh165 1 65535) (show fsG _ 26=_ from rfl) (show fsG _ 27=_ from rfl) rfl trivial (hS 26 (by decide)) (hS 27 (by decide)) hlt ca165 rfl rfl rfl,rfl⟩⟩⟩⟩),trivial⟩
theorem hk87_1 (word:ByteArray) (x:Nat→SV):HandOK Tryz.prog 45 (fun _:Unit=>(⟨[(2,some (.h 0 0)),(8,some (.h 1 0))],[(0,some (.own 0 (.l 3 eformR ((raw87 x).filter (fun x=>!((fun (x0:formR)=>F140 x0 word) x)))))),(1,some (.own 1 (.x (LX (know87 x)))))],2⟩:St)) (fun _=>True) (fun _:Unit=>(⟨[(2,some (.h 0 0))],[(0,some (.own 0 (.b (.l 3 eform (all87.filter (fun z=>z.word.toList==word.toList))))))],2⟩:St)) (fun _=>True):=by
 intro ψ IN w0 w a i _ H
 refine ⟨(),trivial,pack1 rfl rfl rfl (fun v y f g h1 h2=>?_) H⟩
 have hx:RdAll (fun b=>b∈f++g) w (know87 x):=h2.1.2.mono fun b hb=>⟨List.mem_append_right _ hb,rfl⟩
 have hall:Rel2 (fun (y:formR) (z:form)=>y.word=z.word∧∀ cs,RdVs (fun b=>b∈f++g) w (eformR y) cs→RdVs (fun b=>b∈f++g) w (eform z) cs) (raw87 x) all87:=⟨⟨rfl,row3 hx.1⟩,⟨rfl,row3 hx.2.1⟩,⟨rfl,row3 hx.2.2.1⟩,⟨rfl,row3 hx.2.2.2.1⟩,⟨rfl,row3 hx.2.2.2.2.1⟩,⟨rfl,row3 hx.2.2.2.2.2.1⟩,⟨rfl,row3 hx.2.2.2.2.2.2.1⟩,⟨rfl,row3 hx.2.2.2.2.2.2.2.1⟩,⟨rfl,row3 hx.2.2.2.2.2.2.2.2.1⟩,trivial⟩
 refine own_reads h1 (fun b hb=>List.mem_append_left _ hb) (Rel2.mono (fun a c h=>h.2) (Rel2.filter (fun y z h=>?_) hall))
 simp only [F140,h.1,Bool.not_not]
def F87 (word:ByteArray):List form :=
 (all87.filter (fun z=>z.word.toList==word.toList))
def S87 (word:ByteArray):Spec:=⟨[.r (.c (.v (.string word)))],.ow (.b (.l 3 eform (F87 word))),True⟩
theorem ok87 (word:ByteArray):(S87 word).ok Tryz.prog 87 false :=
 fnG_ok mixed (fn:=Tryz.f87) (ct:=.seq .no (.seq (.reg [(0,kh133f 1 65535),(1,kh133f 1 7)]) (.hnd (ι:=Unit) (κ:=(Nat→SV)) (fun _=>(⟨[(1,some (.p 0 0)),(5,some (.h 1 0)),(8,some (.h 2 0))],[(0,some (.box 9 [.v (.string word)])),(1,some (.arr 9 [.v (.string w4_),.v (vI 1),.h 2 0,.v (.string w10_),.v (vI 2),.h 3 0,.v (.string w7_),.v (vI 2),.h 4 0,.v (.string w7_),.v (vI 2),.h 7 0,.v (.string w9_),.v (vI 3),.h 12 0,.v (.string w8_),.v (vI 3),.h 19 0,.v (.string w6_),.v (vI 2),.h 20 0,.v (.string w5_),.v (vI 1),.h 25 0,.v (.string w3_),.v (vI 3),.h 28 0])),(2,some (.arr 1 [.cl 134 []])),(3,some (.arr 2 [.cl 134 [],.cl 135 []])),(4,some (.arr 2 [.cl 165 [.p 5 0,.p 6 0],.cl 136 []])),(5,some (.box 3 [.v (vI 0)])),(6,some (.box 3 [.v (vI 7)])),(7,some (.arr 4 [.cl 165 [.p 8 0,.p 9 0],.cl 136 [],.cl 166 [.p 10 0],.cl 134 []])),(8,some (.box 3 [.v (vI 0)])),(9,some (.box 3 [.v (vI 7)])),(10,some (.box 26 [.h 11 0])),(11,some (.own 11 (.l 1 eStr ([w16_]:List ByteArray)))),(12,some (.arr 6 [.cl 134 [],.cl 165 [.p 13 0,.p 14 0],.cl 166 [.p 15 0],.cl 136 [],.cl 136 [],.cl 165 [.p 17 0,.p 18 0]])),(13,some (.box 3 [.v (vI 0)])),(14,some (.box 3 [.v (vI 99)])),(15,some (.box 26 [.h 16 0])),(16,some (.own 16 (.l 1 eStr ([w17_,w18_]:List ByteArray)))),(17,some (.box 3 [.v (vI 0)])),(18,some (.box 3 [.v (vI 7)])),(19,some (.arr 2 [.cl 136 [],.cl 138 []])),(20,some (.arr 3 [.cl 138 [],.cl 165 [.p 21 0,.p 22 0],.cl 165 [.p 23 0,.p 24 0]])),(21,some (.box 3 [.v (vI 1)])),(22,some (.box 3 [.v (vI 9)])),(23,some (.box 3 [.v (vI 1)])),(24,some (.box 3 [.v (vI 999999)])),(25,some (.arr 4 [.cl 136 [],.cl 138 [],.cl 165 [.p 26 0,.p 27 0],.cl 165 [.p 26 0,.p 27 0]])),(26,some (.box 3 [.v (vI 1)])),(27,some (.box 3 [.v (vI 65535)])),(28,some (.arr 4 [.cl 165 [.p 29 0,.p 30 0],.cl 165 [.p 26 0,.p 27 0],.cl 138 [],.cl 165 [.p 26 0,.p 27 0]])),(29,some (.box 3 [.v (vI 1)])),(30,some (.box 3 [.v (vI 7)]))],31⟩:St)) (fun _=>True) (fun (x:Nat→SV)=>(⟨[(1,some (.p 0 0)),(5,some (.h 1 0)),(8,some (.h 2 0))],[(0,some (.box 9 [.v (.string word)])),(1,some (.own 1 (.l 3 eformR (raw87 x)))),(2,some (.own 2 (.x (LX (know87 x)))))],31⟩:St)) (fun _=>True) (.reg [(4,kh133f 0 7),(7,kh133f 0 7),(8,.dat (.l 1 eStr ([w16_]:List ByteArray))),(9,kh137f ([w16_]:List ByteArray)),(12,kh133f 0 99),(13,.dat (.l 1 eStr ([w17_,w18_]:List ByteArray))),(14,kh137f ([w17_,w18_]:List ByteArray)),(15,kh133f 0 7),(20,kh133f 1 9),(21,kh133f 1 999999)]) (fun (x:Nat→SV)=>.hnd (ι:=Unit) (κ:=Unit) (fun _=>(⟨[(2,some (.h 0 0)),(8,some (.h 1 0))],[(0,some (.own 0 (.l 3 eformR ((raw87 x).filter (fun x=>!((fun (x0:formR)=>F140 x0 word) x)))))),(1,some (.own 1 (.x (LX (know87 x)))))],2⟩:St)) (fun _=>True) (fun (_:Unit)=>(⟨[(2,some (.h 0 0))],[(0,some (.own 0 (.b (.l 3 eform (all87.filter (fun z=>z.word.toList==word.toList))))))],2⟩:St)) (fun _=>True) (.reg [(2,.call 139 (S139 ((raw87 x).filter (fun x=>!((fun (x0:formR)=>F140 x0 word) x))) (raw87 x) (fun (x0:formR)=>F140 x0 word) (fun (x0:formR)=>True)) (oa139 (raw87 x) (fun (x0:formR)=>F140 x0 word) (fun (x0:formR)=>True)) (some ⟨true,140,fsQ131 (fun (x0:formR)=>True) (fun (x0:formR)=>F140 x0 word),[.rp ([.v (.string word)])],rfl,True,fun i=>ok_pxH (ok140 i word)⟩))]) (fun (_:Unit)=>.no))))) Tryz.func87 (fun (_:True)=>kc133 1 65535 (kc133 1 7 (ai (kc133 0 7 (kc133 0 7 (ai (bokr 1 eStr ([w16_]:List ByteArray) fun _=>rfl) (kc137 ([w16_]:List ByteArray) (kc133 0 99 (ai (bokr 1 eStr ([w17_,w18_]:List ByteArray) fun _=>rfl) (kc137 ([w17_,w18_]:List ByteArray) (kc133 0 7 (kc133 1 9 (kc133 1 999999 (Exists.intro (p:=fun (_:Unit)=>((.string word:Value)=.string word)∧((.string w4_:Value)=.string w4_)∧((.int .i64 1:Value)=.int .i64 1)∧((.string w10_:Value)=.string w10_)∧((.int .i64 2:Value)=.int .i64 2)∧((.string w7_:Value)=.string w7_)∧((.int .i64 2:Value)=.int .i64 2)∧((.string w7_:Value)=.string w7_)∧((.int .i64 2:Value)=.int .i64 2)∧((.string w9_:Value)=.string w9_)∧((.int .i64 3:Value)=.int .i64 3)∧((.string w8_:Value)=.string w8_)∧((.int .i64 3:Value)=.int .i64 3)∧((.string w6_:Value)=.string w6_)∧((.int .i64 2:Value)=.int .i64 2)∧((.string w5_:Value)=.string w5_)∧((.int .i64 1:Value)=.int .i64 1)∧((.string w3_:Value)=.string w3_)∧((.int .i64 3:Value)=.int .i64 3)∧((.int .i64 0:Value)=.int .i64 0)∧((.int .i64 7:Value)=.int .i64 7)∧((.int .i64 0:Value)=.int .i64 0)∧((.int .i64 7:Value)=.int .i64 7)∧(Imp (.l 1 eStr ([w16_]:List ByteArray)) (.l 1 eStr ([w16_]:List ByteArray)))∧((.int .i64 0:Value)=.int .i64 0)∧((.int .i64 99:Value)=.int .i64 99)∧(Imp (.l 1 eStr ([w17_,w18_]:List ByteArray)) (.l 1 eStr ([w17_,w18_]:List ByteArray)))∧((.int .i64 0:Value)=.int .i64 0)∧((.int .i64 7:Value)=.int .i64 7)∧((.int .i64 1:Value)=.int .i64 1)∧((.int .i64 9:Value)=.int .i64 9)∧((.int .i64 1:Value)=.int .i64 1)∧((.int .i64 999999:Value)=.int .i64 999999)∧((.int .i64 1:Value)=.int .i64 1)∧((.int .i64 65535:Value)=.int .i64 65535)∧((.int .i64 1:Value)=.int .i64 1)∧((.int .i64 7:Value)=.int .i64 7)∧True) () (ai rfl (ai rfl (ai rfl (ai rfl (ai rfl (ai rfl (ai rfl (ai rfl (ai rfl (ai rfl (ai rfl (ai rfl (ai rfl (ai rfl (ai rfl (ai rfl (ai rfl (ai rfl (ai rfl (ai rfl (ai rfl (ai rfl (ai rfl (ai ir (ai rfl (ai rfl (ai ir (ai rfl (ai rfl (ai rfl (ai rfl (ai rfl (ai rfl (ai rfl (ai rfl (ai rfl (ai rfl trivial)))))))))))))))))))))))))))))))))))))))))))))))) (ai (hk87_0 word) (fun (x:Nat→SV) (_:True)=>ai (ai (ai (by exact (by decide:(9:Nat)≤1000000000):(raw87 x).length≤1000000000) (by (intros; exact trivial):∀ k:Nat,k<(raw87 x).length→(fun (x0:formR)=>True) ((raw87 x).getD k default))) (ai (Imp.refl (.l 3 eformR (raw87 x))) (ai (Eq.refl (fsQ131 (fun (x0:formR)=>True) (fun (x0:formR)=>F140 x0 word))) (ai trivial (ai (Imps.refl [.v (.string word)]) (Exists.intro (p:=fun (_:Unit)=>(Imp (.l 3 eformR ((raw87 x).filter (fun x=>!((fun (x0:formR)=>F140 x0 word) x)))) (.l 3 eformR ((raw87 x).filter (fun x=>!((fun (x0:formR)=>F140 x0 word) x)))))∧(Imp (.x (LX (know87 x))) (.x (LX (know87 x))))∧True) () (ai ir (ai ir trivial)))))))) (ai (hk87_1 word x) (fun (_:Unit) (_:True)=>(fun hF:((all87.filter (fun z=>z.word.toList==word.toList)):List form)=(F87 word)=>ai (Imp.of_eq (congrArg (fun r:List form=>Dat.b (Dat.l 3 eform r)) hF)) trivial) rfl))))))) (by kernel_rfl)
theorem g87_0 (word:ByteArray):∀ k:Nat,((F87 word).getD k default).checks.length≤6:=by
 have hall:∀ z∈all87,z.checks.length≤6:=by
  intro z hz
  simp only [all87,List.mem_cons,List.not_mem_nil,or_false] at hz
  rcases hz with rfl | rfl | rfl | rfl | rfl | rfl | rfl | rfl | rfl <;> decide
 intro k
 rw [List.getD_eq_getElem?_getD]
 cases h:(F87 word)[k]? with
 | none=>exact Nat.zero_le 6
 | some z=>exact hall z (List.mem_filter.1 (List.mem_of_getElem? h)).1
def F88_s0 (f:form) (words:List ByteArray):Int→Lp Int Bool:=fun v17 =>
 bif (decide (v17<(f.checks.length:Int))) then (bif (!((f.checks.getD v17.toNat default) (words.getD (v17+1).toNat default))) then (.ret false) else (.next (v17+1))) else (.done v17)
def F88 (f:form) (words:List ByteArray):Bool :=
 bif ((words.length:Int) != ((f.checks.length:Int)+1)) then false else ((runL (F88_s0 f words) (((f.checks.length:Int)-0).toNat+1) 0).fin (fun r=>r) (fun v17=>true))
abbrev lN88_0 (f:form):Nat×Int:=((((f.checks.length:Int)-0).toNat+1),0)
abbrev lI88_0 (f:form) (m39:Nat) (v17:Int):Prop:=Int.toNat ((f.checks.length:Int)-v17)<m39∧(0:Int)≤v17
abbrev lX88_0 (f:form) (words:List ByteArray):Lp Int Bool:=LpX (F88_s0 f words) (lN88_0 f)
abbrev lJ88_0 (f:form) (words:List ByteArray) (i:Nat×Int):Prop:=LpJ (F88_s0 f words) (lN88_0 f) i (lI88_0 f i.1 i.2)
abbrev lH88_0 (f:form) (words:List ByteArray) (i:Nat×Int) (m39:Nat) (v17:Int):Prop:=LpH (F88_s0 f words) (lN88_0 f) i m39 v17 (lI88_0 f (m39+1) v17)
abbrev lE88_0 (f:form) (words:List ByteArray) (v17:Int) (v17_:Int) (K39:Prop):Prop:=(Rf (.int .i64 (f.checks.length:Int)))∧((.int .i64 v17:Value)=.int .i64 v17_)∧(Im (.l 1 eStr words))∧(Im (.l 1 eFn64 f.checks))∧K39
theorem un88_0 (f:form) (words:List ByteArray) (i:Nat×Int) (h:lJ88_0 f words i):lH88_0 f words i (i.1-1) i.2:=⟨hd1 h.1 h.2.1,hd3 h.2.1,hd2 h.2.1,h.2.2⟩
theorem bk88_0 (f:form) (words:List ByteArray) (i:Nat×Int) (m39:Nat) (v17:Int) (hl:m39<i.1) (e:runL (F88_s0 f words) m39 v17=lX88_0 f words) (h:lI88_0 f m39 v17):∃ j:Nat×Int,lE88_0 f words v17 j.2 (lJ88_0 f words j∧j.1<i.1):=⟨(m39,v17),rfl,rfl,Imp.refl _,Imp.refl _,⟨e,h⟩,hl⟩
theorem en88_0 (f:form) (words:List ByteArray) (h:(0:Int)≤0):lE88_0 f words 0 0 (lJ88_0 f words (lN88_0 f)):=⟨rfl,rfl,Imp.refl _,Imp.refl _,rfl,Nat.lt_succ_self _,h⟩
def S88 (f:form) (words:List ByteArray):Spec:=⟨[.r (.g (eform f)),.r (.c (.l 1 eStr words))],.v (.bool (F88 f words)),f.checks.length≤6∧(∀ k:Nat,(words.getD k default).size≤1048576)⟩
theorem ok88 (f:form) (words:List ByteArray):(S88 f words).ok Tryz.prog 88 false :=
 fnG_ok mixed (fn:=Tryz.f88) (ct:=.seqk [(1,0)] .no (.seq (.seq (.reg [(5,.bnd)]) (.cond (.seq .no .no) .no)) (.seq (.seqk [(1,0),(15,0)] .no (.blk (.loop (ι:=Nat×Int) (fun i=>(fun (v17:Int)=>(⟨[(1,some (.h 0 0)),(15,some (.h 1 0)),(16,some (.v (vI (f.checks.length:Int)))),(17,some (.v (vI v17)))],[(0,some (.shr none (.l 1 eStr words))),(1,some (.shr none (.l 1 eFn64 f.checks)))],2⟩:St)) i.2) (lJ88_0 f words) (fun i=>i.1) (lN88_0 f) (fun i=>(fun (v17:Int)=>(.seq .no (.seq (.cond .no .no) (.seq (.blk (.seq .no (.seq (.reg [(3,.bnd),(6,.fnv (fsB64 (f.checks.getD v17.toNat default)) (words.getD (v17+1).toNat default))]) (.cond (.seq .no .no) .no)))) (.reg [(0,.bnd)]))))) i.2)))) (.seq .no .no)))) Tryz.func88 (fun (hp:f.checks.length≤6∧(∀ k:Nat,(words.getD k default).size≤1048576))=>have hpre0:=hp.1; have hpre1:=hp.2; kn words fun _=>ai (iok ((f.checks.length:Int)+1) (by omega)) (ifn (words.length:Int) ((f.checks.length:Int)+1) (fun h1 _=>fiB false (F88 f words) (condT h1 rfl)) (fun h1 _=>kn words fun _=>kn f.checks fun _=>ai (en88_0 f words (by omega)) (fun (i0:Nat×Int) (hi0:lJ88_0 f words i0)=>(fun (m0:Nat) (v17:Int) (hh0:lH88_0 f words i0 m0 v17)=>have hI0:=hh0.1; have hl0:=hh0.2.1; have _:=hh0.2.2.1; have _:=hh0.2.2.2; ifd (v17<(f.checks.length:Int)) (fun h3 _=>ai (by omega:ib v17 f.checks) (ai (iok (v17+1) (by omega)) (ai (by omega:ib (v17+1) words) (ai (Eq.refl (FnX Tryz.prog (fsB64 (f.checks.getD v17.toNat default)))) (ai (Imp.bx (by exact hpre1 _:(words.getD (v17+1).toNat default).size≤1048576)) (ifb (!((f.checks.getD v17.toNat default) (words.getD (v17+1).toNat default))) (fun h4=>have _:=(notET h4); fiB false (F88 f words) (condF h1 (finR (runL_ret hI0 (condT h3 (condT h4 rfl))) rfl))) (fun h4=>have _:=(notEF h4); ai (iok (v17+1) (by omega)) (bk88_0 f words i0 m0 (v17+1) hl0 (runL_next hI0 (condT h3 (condF h4 rfl))) (by refine ⟨?_,?_⟩ <;> omega))))))))) (fun h3 _=>have hD0_5:lX88_0 f words=Lp.done v17:=runL_done hI0 (condF h3 rfl); fiB true (F88 f words) (condF h1 (finD hD0_5 rfl)))) (i0.1-1) i0.2 (un88_0 f words i0 hi0))))) (by kernel_rfl)
theorem kc87 (word:ByteArray) {K_:Prop} (k_:(∀ k:Nat,((F87 word).getD k default).checks.length≤6)→K_):(True)∧(Imp (.v (.string word)) (.v (.string word)))∧K_:=⟨trivial,Imp.refl _,k_ (g87_0 word)⟩
abbrev kh87 (word:ByteArray):Hint false Tryz.prog:=.call 87 (S87 word) (ok87 word) none
theorem kc88 (f:form) (words:List ByteArray) {K_:Prop} (p0_:f.checks.length≤6) (p1_:∀ k:Nat,(words.getD k default).size≤1048576) (k_:K_):(f.checks.length≤6∧(∀ k:Nat,(words.getD k default).size≤1048576))∧(Imps (eform f) (eform f))∧(Imp (.l 1 eStr words) (.l 1 eStr words))∧K_:=⟨⟨p0_,p1_⟩,Imps.refl _,Imp.refl _,k_⟩
abbrev kh88 (f:form) (words:List ByteArray):Hint false Tryz.prog:=.call 88 (S88 f words) (ok88 f words) none
def F34_s0 (words:List ByteArray):Int→Lp Int (form×Bool):=fun v15 =>
 bif (decide (v15<((F87 (words.getD (Int.toNat 0) default)).length:Int))) then (bif (F88 ((F87 (words.getD (Int.toNat 0) default)).getD v15.toNat default) words) then (.ret (((F87 (words.getD (Int.toNat 0) default)).getD v15.toNat default),true)) else (.next (v15+1))) else (.done v15)
def F34 (words:List ByteArray):form×Bool :=
 bif ((words.length:Int)==0) then ((⟨(⟨#[]⟩:ByteArray),0,[]⟩:form),false) else ((runL (F34_s0 words) ((((F87 (words.getD (Int.toNat 0) default)).length:Int)-0).toNat+1) 0).fin (fun r=>r) (fun v15=>((⟨(⟨#[]⟩:ByteArray),0,[]⟩:form),false)))
abbrev lN34_0 (words:List ByteArray):Nat×Int:=(((((F87 (words.getD (Int.toNat 0) default)).length:Int)-0).toNat+1),0)
abbrev lI34_0 (words:List ByteArray) (m39:Nat) (v15:Int):Prop:=Int.toNat (((F87 (words.getD (Int.toNat 0) default)).length:Int)-v15)<m39∧(0:Int)≤v15
abbrev lX34_0 (words:List ByteArray):Lp Int (form×Bool):=LpX (F34_s0 words) (lN34_0 words)
abbrev lJ34_0 (words:List ByteArray) (i:Nat×Int):Prop:=LpJ (F34_s0 words) (lN34_0 words) i (lI34_0 words i.1 i.2)
abbrev lH34_0 (words:List ByteArray) (i:Nat×Int) (m39:Nat) (v15:Int):Prop:=LpH (F34_s0 words) (lN34_0 words) i m39 v15 (lI34_0 words (m39+1) v15)
abbrev lE34_0 (words:List ByteArray) (v15:Int) (v15_:Int) (K39:Prop):Prop:=(Rf (.int .i64 ((F87 (words.getD (Int.toNat 0) default)).length:Int)))∧((.int .i64 v15:Value)=.int .i64 v15_)∧(Im (.l 1 eStr words))∧(Rf (.string w13_))∧(Rf (.int .i64 0))∧(Rf (.slice none 0 0))∧(Im (.b (.l 3 eform (F87 (words.getD (Int.toNat 0) default)))))∧K39
theorem un34_0 (words:List ByteArray) (i:Nat×Int) (h:lJ34_0 words i):lH34_0 words i (i.1-1) i.2:=⟨hd1 h.1 h.2.1,hd3 h.2.1,hd2 h.2.1,h.2.2⟩
theorem bk34_0 (words:List ByteArray) (i:Nat×Int) (m39:Nat) (v15:Int) (hl:m39<i.1) (e:runL (F34_s0 words) m39 v15=lX34_0 words) (h:lI34_0 words m39 v15):∃ j:Nat×Int,lE34_0 words v15 j.2 (lJ34_0 words j∧j.1<i.1):=⟨(m39,v15),rfl,rfl,Imp.refl _,rfl,rfl,rfl,Imp.refl _,⟨e,h⟩,hl⟩
theorem en34_0 (words:List ByteArray) (h:(0:Int)≤0):lE34_0 words 0 0 (lJ34_0 words (lN34_0 words)):=⟨rfl,rfl,Imp.refl _,rfl,rfl,rfl,Imp.refl _,rfl,Nat.lt_succ_self _,h⟩
def S34 (words:List ByteArray):Spec:=⟨[.r (.c (.l 1 eStr words))],.tu [.ag [.v (.string (F34 words).1.word),.v (vI (F34 words).1.key),.ow .any],.v (.bool (F34 words).2)],(∀ k:Nat,(words.getD k default).size≤1048576)⟩
theorem ok34 (words:List ByteArray):(S34 words).ok Tryz.prog 34 false :=
 fnG_ok mixed (fn:=Tryz.f34) (ct:=.seqk [(0,0)] .no (.seq (.seq .no (.cond (.seq .no .no) .no)) (.seq (.seqk [(0,0),(13,0)] (.reg [(3,kh87 (words.getD (Int.toNat 0) default))]) (.blk (.loop (ι:=Nat×Int) (fun i=>(fun (v15:Int)=>(⟨[(0,some (.h 0 0)),(2,some (.p 1 0)),(13,some (.h 2 0)),(14,some (.v (vI ((F87 (words.getD (Int.toNat 0) default)).length:Int)))),(15,some (.v (vI v15)))],[(0,some (.shr none (.l 1 eStr words))),(1,some (.box 54 [.v (.string w13_),.v (vI 0),.v (.slice none 0 0)])),(2,some (.own 2 (.b (.l 3 eform (F87 (words.getD (Int.toNat 0) default))))))],3⟩:St)) i.2) (lJ34_0 words) (fun i=>i.1) (lN34_0 words) (fun i=>(fun (v15:Int)=>(.seq .no (.seq (.cond .no .no) (.seq (.blk (.seq .no (.seq (.reg [(2,kh88 ((F87 (words.getD (Int.toNat 0) default)).getD v15.toNat default) words)]) (.cond (.seq .no .no) .no)))) (.reg [(0,.bnd)]))))) i.2)))) (.seq .no .no)))) Tryz.func34 (fun (hpre0:∀ k:Nat,(words.getD k default).size≤1048576)=>kn words fun _=>ife (words.length:Int) 0 (fun h1 _=>(fun hF:((⟨w13_,0,[]⟩:form),false)=(F34 words)=>ai (congrArg (fun r:form×Bool=>(.string r.1.word:Value)) hF) (ai (congrArg (fun r:form×Bool=>(.int .i64 r.1.key:Value)) hF) (ai (congrArg (fun r:form×Bool=>(.bool r.2:Value)) hF) trivial))) (condT h1 rfl)) (fun h1 _=>ai (by omega:ib 0 words) (kc87 (words.getD (Int.toNat 0) default) (fun gv2=>kn words fun _=>kn (F87 (words.getD (Int.toNat 0) default)) fun _=>ai (en34_0 words (by omega)) (fun (i0:Nat×Int) (hi0:lJ34_0 words i0)=>(fun (m0:Nat) (v15:Int) (hh0:lH34_0 words i0 m0 v15)=>have hI0:=hh0.1; have hl0:=hh0.2.1; have _:=hh0.2.2.1; have _:=hh0.2.2.2; ifd (v15<((F87 (words.getD (Int.toNat 0) default)).length:Int)) (fun h4 _=>ai (by omega:ib v15 (F87 (words.getD (Int.toNat 0) default))) (kc88 ((F87 (words.getD (Int.toNat 0) default)).getD v15.toNat default) words (by exact gv2 _) (by assumption) (ifb (F88 ((F87 (words.getD (Int.toNat 0) default)).getD v15.toNat default) words) (fun h5=>(fun hF:(((F87 (words.getD (Int.toNat 0) default)).getD v15.toNat default),true)=(F34 words)=>ai (congrArg (fun r:form×Bool=>(.string r.1.word:Value)) hF) (ai (congrArg (fun r:form×Bool=>(.int .i64 r.1.key:Value)) hF) (ai (congrArg (fun r:form×Bool=>(.bool r.2:Value)) hF) trivial))) (condF h1 (finR (runL_ret hI0 (condT h4 (condT h5 rfl))) rfl))) (fun h5=>ai (iok (v15+1) (by omega)) (bk34_0 words i0 m0 (v15+1) hl0 (runL_next hI0 (condT h4 (condF h5 rfl))) (by refine ⟨?_,?_⟩ <;> omega)))))) (fun h4 _=>have hD0_6:lX34_0 words=Lp.done v15:=runL_done hI0 (condF h4 rfl); (fun hF:((⟨w13_,0,[]⟩:form),false)=(F34 words)=>ai (congrArg (fun r:form×Bool=>(.string r.1.word:Value)) hF) (ai (congrArg (fun r:form×Bool=>(.int .i64 r.1.key:Value)) hF) (ai (congrArg (fun r:form×Bool=>(.bool r.2:Value)) hF) trivial))) (condF h1 (finD hD0_6 rfl)))) (i0.1-1) i0.2 (un34_0 words i0 hi0)))))) (by kernel_rfl)
theorem find_loop {α ρ τ:Type} [Inhabited α] (xs:List α) (p:α→Bool) (g:α→ρ) (st:Int→Lp Int ρ) (f:ρ→τ) (k:Int→τ) (y:τ) (hk:∀ i,k i=y)
  (h1:∀ i:Nat,i<xs.length→st (i:Int)=bif p (xs.getD i default) then .ret (g (xs.getD i default)) else .next ((i+1:Nat):Int)) (h2:st (xs.length:Int)=.done (xs.length:Int)) :
  ∀ (m i:Nat),i+m=xs.length→∀ fuel,m<fuel→(runL st fuel (i:Int)).fin f k=match (xs.drop i).find? p with | some a=>f (g a) | none=>y
 | m,i,_,0,hf=>absurd hf (Nat.not_lt_zero _)
 | 0,i,h,fuel+1,hf=>by
  have e:i=xs.length:=by omega
  subst e
  rw [runL_d _ h2,List.drop_of_length_le (Nat.le_refl _)]
  exact hk _
 | m+1,i,h,fuel+1,hf=>by
  have hst:=h1 i (by omega)
  have hd:xs.drop i=xs.getD i default :: xs.drop (i+1):=by
   rw [List.drop_eq_getElem_cons (show i<xs.length by omega),List.getD_eq_getElem?_getD,List.getElem?_eq_getElem (show i<xs.length by omega)]; rfl
  rw [hd,List.find?_cons]
  cases hp:p (xs.getD i default) with
  | true=>rw [hp,cond_true] at hst; rw [runL_r _ hst]; rfl
  | false =>
   rw [hp,cond_false] at hst
   rw [runL_n _ hst,find_loop xs p g st f k y hk h1 h2 m (i+1) (by omega) fuel (by omega)]
def chk:List (ByteArray→Bool)→Nat→List ByteArray→Bool
 | [],_,_=>true
 | c :: cs,i,w=>c (w.getD i default)&&chk cs (i+1) w
theorem chk_drop (cs:List (ByteArray→Bool)) (w:List ByteArray):∀ (m i:Nat),i+m=cs.length→anyF (fun k=>!(cs.getD k default) (w.getD (k+1) default)) i m=!chk (cs.drop i) (i+1) w
 | 0,i,h=>by rw [List.drop_of_length_le (by omega)]; rfl
 | m+1,i,h=>by
  have hd:cs.drop i=cs.getD i default :: cs.drop (i+1):=by
   rw [List.drop_eq_getElem_cons (show i<cs.length by omega),List.getD_eq_getElem?_getD,List.getElem?_eq_getElem (show i<cs.length by omega)]; rfl
  rw [hd]
  simp only [anyF,chk,Bool.not_and]
  rw [chk_drop cs w m (i+1) (by omega)]
theorem fits_eq (f:form) (w:List ByteArray):F88 f w=(decide (w.length=f.checks.length+1)&&chk f.checks 1 w):=by
 unfold F88
 by_cases h:w.length=f.checks.length+1
 ·have h1:((w.length:Int) != ((f.checks.length:Int)+1))=false:=by
   rw [bne_eq_false_iff_eq]; omega
  rw [h1,cond_false,decide_eq_true h,Bool.true_and]
  have:=any_loop (F88_s0 f w) f.checks.length (fun k=>!(f.checks.getD k default) (w.getD (k+1) default)) false (fun r=>r) true (fun i hi=>by
   simp only [F88_s0,decide_eq_true (show (i:Int)<(f.checks.length:Int) by omega),cond_true,Int.toNat_natCast]
   rw [show ((i:Int)+1).toNat=i+1 by omega]
   cases (!(f.checks.getD i default) (w.getD (i+1) default)) <;> rfl) (by
   simp only [F88_s0,decide_eq_false (show ¬ (f.checks.length:Int)<(f.checks.length:Int) by omega),cond_false])
  have h2:=this f.checks.length 0 (by omega) (Int.toNat ((f.checks.length:Int)-0)+1) (by omega)
  rw [chk_drop f.checks w f.checks.length 0 (by omega),List.drop_zero] at h2
  refine h2.trans ?_
  cases chk f.checks (0+1) w <;> rfl
 ·have h1:((w.length:Int) != ((f.checks.length:Int)+1))=true:=by
   rw [bne_iff_ne]; omega
  rw [h1,cond_true,decide_eq_false h,Bool.false_and]
theorem formOf_eq (w:List ByteArray) (hw:w.length≠0):F34 w=match (F87 (w.getD 0 default)).find? (fun f=>F88 f w) with | some f=>(f,true) | none=>((⟨(⟨#[]⟩:ByteArray),0,[]⟩:form),false):=by
 unfold F34
 have h1:((w.length:Int)==0)=false:=by rw [beq_eq_false_iff_ne]; omega
 rw [h1,cond_false]
 have h0:w.getD (Int.toNat 0) default=w.getD 0 default:=rfl
 simp only [h0]
 generalize hx:F87 (w.getD 0 default)=xs
 have:=find_loop xs (fun f=>F88 f w) (fun f=>(f,true)) (F34_s0 w) (fun r=>r) (fun _=>((⟨(⟨#[]⟩:ByteArray),0,[]⟩:form),false)) _ (fun _=>rfl) (fun i hi=>by
  simp only [F34_s0,h0,hx,decide_eq_true (show (i:Int)<(xs.length:Int) by omega),cond_true,Int.toNat_natCast]
  cases F88 (xs.getD i default) w <;> rfl) (by
  simp only [F34_s0,h0,hx,decide_eq_false (show ¬ (xs.length:Int)<(xs.length:Int) by omega),cond_false]) xs.length 0 (by omega) (Int.toNat ((xs.length:Int)-0)+1) (by omega)
 rw [List.drop_zero] at this
 refine Eq.trans this ?_
 cases xs.find? (fun f=>F88 f w) <;> rfl
theorem forms_of (l:List UInt8) (x:ByteArray) (h:x.data.toList=l):F87 x=all87.filter (fun z=>z.word.data.toList==l):=by
 unfold F87
 congr 1
 funext z
 rw [byteToList,byteToList,h]
def keyN (l:List UInt8):Int :=
 if l=[104,111,115,116] then 1 else if l=[117,115,101,114] then 2 else if l=[112,111,114,116] then 2 else if l=[114,117,108,101] then 3 else if l=[114,111,117,116,101] then 3 else if l=[112,101,101,114] then 2 else if l=[110,97,116] then 1 else 3
theorem one_word (x a:ByteArray):F166 x [a]=(x.toList==a.toList):=by
 unfold F166
 rw [implHas_eq,List.any_cons,List.any_nil,Bool.or_false]
theorem two_words (x a b:ByteArray):F166 x [a,b]=bif (x.toList==a.toList) then true else (x.toList==b.toList):=by
 unfold F166
 rw [implHas_eq,List.any_cons,List.any_cons,List.any_nil,Bool.or_false]
 cases (x.toList==a.toList) <;> rfl
theorem in_range (x:ByteArray) (lo hi:Int):F165 x lo hi=decide (lo≤F123 x∧F123 x≤hi):=by
 unfold F165
 rw [number_same]
theorem len_dec (w:List ByteArray) (n:Nat):((w.length:Int)==(n:Int))=decide (w.length=n):=by
 by_cases h:w.length=n
 ·rw [decide_eq_true h,beq_iff_eq]; omega
 ·rw [decide_eq_false h,beq_eq_false_iff_ne]; omega
theorem form_one (w:List ByteArray) (f:form) (hw:w.length≠0) (h:F87 (w.getD 0 default)=[f]):(F34 w).2=F88 f w∧((F34 w).2=true→(F34 w).1.key=f.key):=by
 rw [formOf_eq w hw,h,List.find?_cons,List.find?_nil]
 cases F88 f w <;> exact ⟨rfl,fun h=>by first | rfl | cases h⟩
theorem form_two (w:List ByteArray) (f g:form) (hw:w.length≠0) (h:F87 (w.getD 0 default)=[f,g]) (hk:f.key=g.key):(F34 w).2=(F88 f w || F88 g w)∧((F34 w).2=true→(F34 w).1.key=f.key):=by
 rw [formOf_eq w hw,h,List.find?_cons,List.find?_cons,List.find?_nil]
 cases F88 f w <;> cases F88 g w <;> exact ⟨rfl,fun h=>by first | rfl | exact hk.symm | cases h⟩
theorem form_none (w:List ByteArray) (hw:w.length≠0) (h:F87 (w.getD 0 default)=[]):(F34 w).2=false:=by
 rw [formOf_eq w hw,h]; rfl
theorem blit (x:ByteArray) (a:Array UInt8):(x.toList==(⟨a⟩:ByteArray).toList)=(x.data.toList==a.toList):=by rw [byteToList,byteToList]
theorem hd00:(([104,111,115,116]:List UInt8)==([104,111,115,116]:List UInt8))=true:=by decide
theorem hd10:(([117,115,101,114]:List UInt8)==([104,111,115,116]:List UInt8))=false:=by decide
theorem hd11:(([117,115,101,114]:List UInt8)==([117,115,101,114]:List UInt8))=true:=by decide
theorem hd20:(([112,111,114,116]:List UInt8)==([104,111,115,116]:List UInt8))=false:=by decide
theorem hd21:(([112,111,114,116]:List UInt8)==([117,115,101,114]:List UInt8))=false:=by decide
theorem hd22:(([112,111,114,116]:List UInt8)==([112,111,114,116]:List UInt8))=true:=by decide
theorem hd30:(([114,117,108,101]:List UInt8)==([104,111,115,116]:List UInt8))=false:=by decide
theorem hd31:(([114,117,108,101]:List UInt8)==([117,115,101,114]:List UInt8))=false:=by decide
theorem hd32:(([114,117,108,101]:List UInt8)==([112,111,114,116]:List UInt8))=false:=by decide
theorem hd33:(([114,117,108,101]:List UInt8)==([114,117,108,101]:List UInt8))=true:=by decide
theorem hd40:(([114,111,117,116,101]:List UInt8)==([104,111,115,116]:List UInt8))=false:=by decide
theorem hd41:(([114,111,117,116,101]:List UInt8)==([117,115,101,114]:List UInt8))=false:=by decide
theorem hd42:(([114,111,117,116,101]:List UInt8)==([112,111,114,116]:List UInt8))=false:=by decide
theorem hd43:(([114,111,117,116,101]:List UInt8)==([114,117,108,101]:List UInt8))=false:=by decide
theorem hd44:(([114,111,117,116,101]:List UInt8)==([114,111,117,116,101]:List UInt8))=true:=by decide
theorem hd50:(([112,101,101,114]:List UInt8)==([104,111,115,116]:List UInt8))=false:=by decide
theorem hd51:(([112,101,101,114]:List UInt8)==([117,115,101,114]:List UInt8))=false:=by decide
theorem hd52:(([112,101,101,114]:List UInt8)==([112,111,114,116]:List UInt8))=false:=by decide
theorem hd53:(([112,101,101,114]:List UInt8)==([114,117,108,101]:List UInt8))=false:=by decide
theorem hd54:(([112,101,101,114]:List UInt8)==([114,111,117,116,101]:List UInt8))=false:=by decide
theorem hd55:(([112,101,101,114]:List UInt8)==([112,101,101,114]:List UInt8))=true:=by decide
theorem hd60:(([110,97,116]:List UInt8)==([104,111,115,116]:List UInt8))=false:=by decide
theorem hd61:(([110,97,116]:List UInt8)==([117,115,101,114]:List UInt8))=false:=by decide
theorem hd62:(([110,97,116]:List UInt8)==([112,111,114,116]:List UInt8))=false:=by decide
theorem hd63:(([110,97,116]:List UInt8)==([114,117,108,101]:List UInt8))=false:=by decide
theorem hd64:(([110,97,116]:List UInt8)==([114,111,117,116,101]:List UInt8))=false:=by decide
theorem hd65:(([110,97,116]:List UInt8)==([112,101,101,114]:List UInt8))=false:=by decide
theorem hd66:(([110,97,116]:List UInt8)==([110,97,116]:List UInt8))=true:=by decide
theorem hd70:(([100,111,111,114]:List UInt8)==([104,111,115,116]:List UInt8))=false:=by decide
theorem hd71:(([100,111,111,114]:List UInt8)==([117,115,101,114]:List UInt8))=false:=by decide
theorem hd72:(([100,111,111,114]:List UInt8)==([112,111,114,116]:List UInt8))=false:=by decide
theorem hd73:(([100,111,111,114]:List UInt8)==([114,117,108,101]:List UInt8))=false:=by decide
theorem hd74:(([100,111,111,114]:List UInt8)==([114,111,117,116,101]:List UInt8))=false:=by decide
theorem hd75:(([100,111,111,114]:List UInt8)==([112,101,101,114]:List UInt8))=false:=by decide
theorem hd76:(([100,111,111,114]:List UInt8)==([110,97,116]:List UInt8))=false:=by decide
theorem hd77:(([100,111,111,114]:List UInt8)==([100,111,111,114]:List UInt8))=true:=by decide
theorem cb1 (a b:Bool):(bif a then b else false)=(a&&b):=by cases a <;> rfl
theorem cb2 (a b:Bool):(bif a then true else b)=(a || b):=by cases a <;> rfl
theorem form_same (w:List ByteArray):(F34 w).2=F36 w∧((F34 w).2=true→(F34 w).1.key=keyN (w.getD 0 default).data.toList):=by
 by_cases hw:w.length=0
 ·obtain rfl:=List.eq_nil_of_length_eq_zero hw
  exact ⟨rfl,fun h=>by cases h⟩
 have h0:((w.length:Int)==0)=false:=by rw [beq_eq_false_iff_ne]; omega
 have t0:∀ k:Nat,w.getD (k:Int).toNat default=w.getD k default:=fun _=>rfl
 have e0:w.getD (Int.toNat 0) default=w.getD 0 default:=rfl
 have e1:w.getD (Int.toNat 1) default=w.getD 1 default:=rfl
 have e2:w.getD (Int.toNat 2) default=w.getD 2 default:=rfl
 have e3:w.getD (Int.toNat 3) default=w.getD 3 default:=rfl
 have e4:w.getD (Int.toNat 4) default=w.getD 4 default:=rfl
 have e5:w.getD (Int.toNat 5) default=w.getD 5 default:=rfl
 have e6:w.getD (Int.toNat 6) default=w.getD 6 default:=rfl
 have n2:=len_dec w 2
 have n3:=len_dec w 3
 have n4:=len_dec w 4
 have n5:=len_dec w 5
 have n7:=len_dec w 7
 simp only [Int.cast_ofNat_Int] at n2 n3 n4 n5 n7
 have hb:∀ l:List UInt8,(w.getD 0 default).data.toList=l→(w.getD 0 default).toList=l:=fun l h=>by rw [byteToList,h]
 have hlit:∀ l:List UInt8,(⟨l.toArray⟩:ByteArray).toList=l:=fun l=>by rw [byteToList]
 unfold F36
 simp only [h0,cond_false,e0,e1,e2,e3,e4,e5,e6,n2,n3,n4,n5,n7]
 rcases Classical.em ((w.getD 0 default).data.toList=[104,111,115,116]) with h | hn0
 ·have hF:=(forms_of _ _ h).trans (show _=[all87.getD 0 default] from rfl)
  have f0:F88 (all87.getD 0 default) w=(decide (w.length=2)&&(F134 (w.getD 1 default)&&true)):=fits_eq _ _
  obtain ⟨k1,k2⟩:=form_one w _ hw hF
  refine ⟨?_,fun hh=>(k2 hh).trans (by rw [h]; rfl)⟩
  rw [k1,f0]
  simp only [blit,h,hd00,cond_true,cond_false,name_same,isRights_same,isPrefix_same,isAddr_same,in_range,one_word,two_words,cb1,cb2,Bool.and_true,Bool.and_assoc]
 rcases Classical.em ((w.getD 0 default).data.toList=[117,115,101,114]) with h | hn1
 ·have hF:=(forms_of _ _ h).trans (show _=[all87.getD 1 default] from rfl)
  have f0:F88 (all87.getD 1 default) w=(decide (w.length=3)&&(F134 (w.getD 1 default)&&(F135 (w.getD 2 default)&&true))):=fits_eq _ _
  obtain ⟨k1,k2⟩:=form_one w _ hw hF
  refine ⟨?_,fun hh=>(k2 hh).trans (by rw [h]; rfl)⟩
  rw [k1,f0]
  simp only [blit,h,hd10,hd11,cond_true,cond_false,name_same,isRights_same,isPrefix_same,isAddr_same,in_range,one_word,two_words,cb1,cb2,Bool.and_true,Bool.and_assoc]
 rcases Classical.em ((w.getD 0 default).data.toList=[112,111,114,116]) with h | hn2
 ·have hF:=(forms_of _ _ h).trans (show _=[all87.getD 2 default,all87.getD 3 default] from rfl)
  have f0:F88 (all87.getD 2 default) w=(decide (w.length=3)&&(F165 (w.getD 1 default) 0 7&&(F136 (w.getD 2 default)&&true))):=fits_eq _ _
  have f1:F88 (all87.getD 3 default) w=(decide (w.length=5)&&(F165 (w.getD 1 default) 0 7&&(F136 (w.getD 2 default)&&(F166 (w.getD 3 default) [(⟨#[105,110]⟩:ByteArray)]&&(F134 (w.getD 4 default)&&true))))):=fits_eq _ _
  obtain ⟨k1,k2⟩:=form_two w _ _ hw hF rfl
  refine ⟨?_,fun hh=>(k2 hh).trans (by rw [h]; rfl)⟩
  rw [k1,f0,f1]
  simp only [blit,h,hd20,hd21,hd22,cond_true,cond_false,name_same,isRights_same,isPrefix_same,isAddr_same,in_range,one_word,two_words,cb1,cb2,Bool.and_true,Bool.and_assoc]
  generalize decide (w.length=3)=a,decide (w.length=5)=b,decide (0≤F123 (w.getD 1 default)∧F123 (w.getD 1 default)≤7)=c,F94 (w.getD 2 default)=d,((w.getD 3 default).data.toList==[105,110])=e,F82 (w.getD 4 default)=g
  cases a <;> cases b <;> cases c <;> cases d <;> cases e <;> cases g <;> rfl
 rcases Classical.em ((w.getD 0 default).data.toList=[114,117,108,101]) with h | hn3
 ·have hF:=(forms_of _ _ h).trans (show _=[all87.getD 4 default] from rfl)
  have f0:F88 (all87.getD 4 default) w=(decide (w.length=7)&&(F134 (w.getD 1 default)&&(F165 (w.getD 2 default) 0 99&&(F166 (w.getD 3 default) [(⟨#[112,101,114,109,105,116]⟩:ByteArray),(⟨#[100,101,110,121]⟩:ByteArray)]&&(F136 (w.getD 4 default)&&(F136 (w.getD 5 default)&&(F165 (w.getD 6 default) 0 7&&true))))))):=fits_eq _ _
  obtain ⟨k1,k2⟩:=form_one w _ hw hF
  refine ⟨?_,fun hh=>(k2 hh).trans (by rw [h]; rfl)⟩
  rw [k1,f0]
  simp only [blit,h,hd30,hd31,hd32,hd33,cond_true,cond_false,name_same,isRights_same,isPrefix_same,isAddr_same,in_range,one_word,two_words,cb1,cb2,Bool.and_true,Bool.and_assoc]
 rcases Classical.em ((w.getD 0 default).data.toList=[114,111,117,116,101]) with h | hn4
 ·have hF:=(forms_of _ _ h).trans (show _=[all87.getD 5 default] from rfl)
  have f0:F88 (all87.getD 5 default) w=(decide (w.length=3)&&(F136 (w.getD 1 default)&&(F138 (w.getD 2 default)&&true))):=fits_eq _ _
  obtain ⟨k1,k2⟩:=form_one w _ hw hF
  refine ⟨?_,fun hh=>(k2 hh).trans (by rw [h]; rfl)⟩
  rw [k1,f0]
  simp only [blit,h,hd40,hd41,hd42,hd43,hd44,cond_true,cond_false,name_same,isRights_same,isPrefix_same,isAddr_same,in_range,one_word,two_words,cb1,cb2,Bool.and_true,Bool.and_assoc]
 rcases Classical.em ((w.getD 0 default).data.toList=[112,101,101,114]) with h | hn5
 ·have hF:=(forms_of _ _ h).trans (show _=[all87.getD 6 default] from rfl)
  have f0:F88 (all87.getD 6 default) w=(decide (w.length=4)&&(F138 (w.getD 1 default)&&(F165 (w.getD 2 default) 1 9&&(F165 (w.getD 3 default) 1 999999&&true)))):=fits_eq _ _
  obtain ⟨k1,k2⟩:=form_one w _ hw hF
  refine ⟨?_,fun hh=>(k2 hh).trans (by rw [h]; rfl)⟩
  rw [k1,f0]
  simp only [blit,h,hd50,hd51,hd52,hd53,hd54,hd55,cond_true,cond_false,name_same,isRights_same,isPrefix_same,isAddr_same,in_range,one_word,two_words,cb1,cb2,Bool.and_true,Bool.and_assoc]
 rcases Classical.em ((w.getD 0 default).data.toList=[110,97,116]) with h | hn6
 ·have hF:=(forms_of _ _ h).trans (show _=[all87.getD 7 default] from rfl)
  have f0:F88 (all87.getD 7 default) w=(decide (w.length=5)&&(F136 (w.getD 1 default)&&(F138 (w.getD 2 default)&&(F165 (w.getD 3 default) 1 65535&&(F165 (w.getD 4 default) 1 65535&&true))))):=fits_eq _ _
  obtain ⟨k1,k2⟩:=form_one w _ hw hF
  refine ⟨?_,fun hh=>(k2 hh).trans (by rw [h]; rfl)⟩
  rw [k1,f0]
  simp only [blit,h,hd60,hd61,hd62,hd63,hd64,hd65,hd66,cond_true,cond_false,name_same,isRights_same,isPrefix_same,isAddr_same,in_range,one_word,two_words,cb1,cb2,Bool.and_true,Bool.and_assoc]
 rcases Classical.em ((w.getD 0 default).data.toList=[100,111,111,114]) with h | hn7
 ·have hF:=(forms_of _ _ h).trans (show _=[all87.getD 8 default] from rfl)
  have f0:F88 (all87.getD 8 default) w=(decide (w.length=5)&&(F165 (w.getD 1 default) 1 7&&(F165 (w.getD 2 default) 1 65535&&(F138 (w.getD 3 default)&&(F165 (w.getD 4 default) 1 65535&&true))))):=fits_eq _ _
  obtain ⟨k1,k2⟩:=form_one w _ hw hF
  refine ⟨?_,fun hh=>(k2 hh).trans (by rw [h]; rfl)⟩
  rw [k1,f0]
  simp only [blit,h,hd70,hd71,hd72,hd73,hd74,hd75,hd76,hd77,cond_true,cond_false,name_same,isRights_same,isPrefix_same,isAddr_same,in_range,one_word,two_words,cb1,cb2,Bool.and_true,Bool.and_assoc]
 have hF:F87 (w.getD 0 default)=[]:=by
  rw [forms_of _ _ rfl,List.filter_eq_nil_iff]
  intro z hz
  simp only [all87,List.mem_cons,List.not_mem_nil,or_false] at hz
  rcases hz with rfl | rfl | rfl | rfl | rfl | rfl | rfl | rfl | rfl
  ·exact fun e=>hn0 (eq_of_beq e).symm
  ·exact fun e=>hn1 (eq_of_beq e).symm
  ·exact fun e=>hn2 (eq_of_beq e).symm
  ·exact fun e=>hn2 (eq_of_beq e).symm
  ·exact fun e=>hn3 (eq_of_beq e).symm
  ·exact fun e=>hn4 (eq_of_beq e).symm
  ·exact fun e=>hn5 (eq_of_beq e).symm
  ·exact fun e=>hn6 (eq_of_beq e).symm
  ·exact fun e=>hn7 (eq_of_beq e).symm
 rw [form_none w hw hF]
 refine ⟨?_,fun h=>by cases h⟩
 simp only [blit,beq_eq_false_iff_ne.2 hn0,beq_eq_false_iff_ne.2 hn1,beq_eq_false_iff_ne.2 hn2,beq_eq_false_iff_ne.2 hn3,beq_eq_false_iff_ne.2 hn4,beq_eq_false_iff_ne.2 hn5,beq_eq_false_iff_ne.2 hn6,beq_eq_false_iff_ne.2 hn7,cond_false]
theorem wordsOf_sz (l:List UInt8) (k:Nat):((wordsOf l).1.getD k default).size≤24:=by
 unfold wordsOf fitW
 rw [List.getD_eq_getElem?_getD]
 cases h:((l.all okB)&&(decide ((wordsL l).length≤8)&&(wordsL l).all fun w=>decide (w.length≤24))) with
 | false=>rw [cond_false]; exact Nat.zero_le _
 | true =>
  rw [cond_true]
  simp only [Bool.and_eq_true] at h
  have h2:=List.all_eq_true.1 h.2.2
  show ((((wordsL l).map mkB)[k]?).getD default).size≤24
  rw [List.getElem?_map]
  cases hk:(wordsL l)[k]? with
  | none=>exact Nat.zero_le _
  | some w=>exact of_decide_eq_true (h2 w (List.mem_of_getElem? hk))
theorem words_sz24 (line:ByteArray) (k:Nat):((F10 line).1.getD k default).size≤24:=by
 rw [impl_words]; exact wordsOf_sz _ k
theorem words_sz (line:ByteArray):∀ k:Nat,((F10 line).1.getD k default).size≤1048576:=fun k=>Nat.le_trans (words_sz24 line k) (by decide)
theorem specwords_len (line:ByteArray):(F11 line).1.length≤8:=by rw [← words_same]; exact words_len line
theorem specwords_sz (line:ByteArray):∀ k:Nat,((F11 line).1.getD k default).size≤1048576:=by rw [← words_same]; exact words_sz line
theorem joinTail_len (sep:List UInt8) (m:Nat):∀ xs:List (List UInt8),(∀ x∈xs,x.length≤m)→(Lib.joinTail sep xs).length≤xs.length*(m+sep.length)
 | [],_=>by simp [Lib.joinTail]
 | x :: xs,h=>by
  have h1:=joinTail_len sep m xs fun y hy=>h y (List.mem_cons_of_mem _ hy)
  have h2:=h x List.mem_cons_self
  have e:Lib.joinTail sep (x :: xs)=(sep++x)++Lib.joinTail sep xs:=rfl
  rw [e]
  simp only [List.length_append,List.length_cons,Nat.succ_mul]
  omega
theorem join_sz (ws:List ByteArray) (sep:ByteArray) (m:Nat) (h:∀ k:Nat,(ws.getD k default).size≤m):(joinS ws sep).size≤ws.length*(m+sep.size):=by
 have hx:∀ x∈ws.map (·.data.toList),x.length≤m:=by
  intro x hx
  obtain ⟨w,hw,rfl⟩:=List.mem_map.1 hx
  obtain ⟨k,hk⟩:=List.mem_iff_getElem?.1 hw
  have:=h k
  rw [List.getD_eq_getElem?_getD,hk] at this
  exact this
 have e:(joinS ws sep).size=(Lib.join (ws.map (·.data.toList)) sep.data.toList).length:=by simp [joinS,ByteArray.size]
 have es:sep.data.toList.length=sep.size:=rfl
 rw [e]
 cases ws with
 | nil=>simp [Lib.join]
 | cons a t =>
  rw [List.map_cons,Lib.join_cons,List.length_append,List.length_cons,Nat.succ_mul]
  have h1:=joinTail_len sep.data.toList m (t.map (·.data.toList)) fun y hy=>hx y (by rw [List.map_cons]; exact List.mem_cons_of_mem _ hy)
  have h2:=hx a.data.toList (by rw [List.map_cons]; exact List.mem_cons_self)
  rw [List.length_map,es] at h1
  omega
theorem join_small (ws:List ByteArray) (sep:ByteArray) (h:∀ k:Nat,(ws.getD k default).size≤1048576) (hl:ws.length≤8) (hs:sep.size≤1):(joinS ws sep).size≤140737488355328:=by
 have h1:=join_sz ws sep 1048576 h
 have h2:=Nat.mul_le_mul hl (show 1048576+sep.size≤1048577 by omega)
 omega
def F35 (elems:List ByteArray) (sep:ByteArray):ByteArray :=
 joinS elems sep
def S35 (elems:List ByteArray) (sep:ByteArray):Spec:=⟨[.r (.c (.l 1 eStr elems)),.r (.c (.v (.string sep)))],.v (.string (F35 elems sep)),elems.length≤140737488355328∧(joinS elems sep).size≤140737488355328⟩
theorem ok35 (elems:List ByteArray) (sep:ByteArray):(S35 elems sep).ok Tryz.prog 35 false :=
 join_ok layJoin layJoinX elems sep
theorem kc10 (line:ByteArray) {K_:Prop} (p0_:line.size≤1048576) (k_:((F10 line).1.length≤8)→(∀ k:Nat,((F10 line).1.getD k default).size≤1048576)→K_):(line.size≤1048576)∧(Imp (.v (.string line)) (.v (.string line)))∧K_:=⟨p0_,Imp.refl _,k_ (words_len line) (words_sz line)⟩
abbrev kh10 (line:ByteArray):Hint false Tryz.prog:=.call 10 (S10 line) (ok10 line) none
theorem kc34 (words:List ByteArray) {K_:Prop} (p0_:∀ k:Nat,(words.getD k default).size≤1048576) (k_:K_):(∀ k:Nat,(words.getD k default).size≤1048576)∧(Imp (.l 1 eStr words) (.l 1 eStr words))∧K_:=⟨p0_,Imp.refl _,k_⟩
abbrev kh34 (words:List ByteArray):Hint false Tryz.prog:=.call 34 (S34 words) (ok34 words) none
theorem kc35 (elems:List ByteArray) (sep:ByteArray) {K_:Prop} (p0_:elems.length≤140737488355328) (p1_:(joinS elems sep).size≤140737488355328) (k_:K_):(elems.length≤140737488355328∧(joinS elems sep).size≤140737488355328)∧(Imp (.l 1 eStr elems) (.l 1 eStr elems))∧(Imp (.v (.string sep)) (.v (.string sep)))∧K_:=⟨⟨p0_,p1_⟩,Imp.refl _,Imp.refl _,k_⟩
abbrev kh35 (elems:List ByteArray) (sep:ByteArray):Hint false Tryz.prog:=.call 35 (S35 elems sep) (ok35 elems sep) none
def F8 (line:ByteArray):ByteArray×Bool :=
 bif (!(F10 line).2) then ((⟨#[]⟩:ByteArray),false) else (bif (!(F34 (F10 line).1).2) then ((⟨#[]⟩:ByteArray),false) else ((F35 (F10 line).1 ⟨#[32]⟩),true))
theorem fi8 (line:ByteArray) (r:ByteArray×Bool) (hF:r=(F8 line)):((.string r.1:Value)=.string (F8 line).1)∧((.bool r.2:Value)=.bool (F8 line).2)∧True:=by cases hF; exact ⟨rfl,rfl,trivial⟩
def S8 (line:ByteArray):Spec:=⟨[.r (.c (.v (.string line)))],.tu [.v (.string (F8 line).1),.v (.bool (F8 line).2)],line.size≤1048576⟩
theorem ok8 (line:ByteArray):(S8 line).ok Tryz.prog 8 false :=
 fnG_ok mixed (fn:=Tryz.f8) (ct:=.seq .no (.seq (.reg [(1,kh10 line)]) (.seq (.seq .no (.cond (.seq .no .no) .no)) (.seq (.seq (.reg [(1,kh34 (F10 line).1)]) (.seq .no (.cond (.seq .no .no) .no))) (.seq (.reg [(1,kh35 (F10 line).1 w15_)]) .no))))) Tryz.func8 (fun (hpre0:line.size≤1048576)=>kc10 line (by omega) (fun gv1 gv2=>ifb (!(F10 line).2) (fun h3=>have _:=(notET h3); fi8 line (w13_,false) (condT h3 rfl)) (fun h3=>have _:=(notEF h3); kc34 (F10 line).1 (by first | assumption | exact gv2 | (intros; exact trivial) | (intros; exact Nat.zero_le _)) (ifb (!(F34 (F10 line).1).2) (fun h4=>have _:=(notET h4); fi8 line (w13_,false) (condF h3 (condT h4 rfl))) (fun h4=>have _:=(notEF h4); kc35 (F10 line).1 w15_ (by first | omega | exact join_small _ _ (by assumption) (by omega) (by decide)) (by first | omega | exact join_small _ _ (by assumption) (by omega) (by decide)) (fi8 line ((F35 (F10 line).1 w15_),true) (condF h3 (condF h4 rfl)))))))) (by kernel_rfl)
theorem kc11 (line:ByteArray) {K_:Prop} (p0_:line.size≤1048576) (k_:((F11 line).1.length≤8)→(∀ k:Nat,((F11 line).1.getD k default).size≤1048576)→K_):(line.size≤1048576)∧(Imp (.v (.string line)) (.v (.string line)))∧K_:=⟨p0_,Imp.refl _,k_ (specwords_len line) (specwords_sz line)⟩
abbrev kh11 (line:ByteArray):Hint true Tryz.prog:=.call 11 (S11 line) (ok11 line) none
theorem kg36 {K_:Prop} (c_ b_:Bool) (w1:List ByteArray) (p_:c_=b_→(∀ k:Nat,(w1.getD k default).size≤1048576)) (k_:K_):(c_=b_→(∀ k:Nat,(w1.getD k default).size≤1048576))∧(c_=b_→Imp (.l 1 eStr w1) (.l 1 eStr w1))∧K_:=⟨p_,fun _=>Imp.refl _,k_⟩
abbrev kh36 (w1:List ByteArray):Hint true Tryz.prog:=.call 36 (S36 w1) (ok36 w1) none
theorem kc37 (list:List ByteArray) (with':ByteArray) {K_:Prop} (p0_:list.length≤8) (p1_:∀ k:Nat,(list.getD k default).size≤1048576) (p2_:with'.size≤1) (k_:K_):(list.length≤8∧(∀ k:Nat,(list.getD k default).size≤1048576)∧with'.size≤1)∧(Imp (.l 1 eStr list) (.l 1 eStr list))∧(Imp (.v (.string with')) (.v (.string with')))∧K_:=⟨⟨p0_,p1_,p2_⟩,Imp.refl _,Imp.refl _,k_⟩
abbrev kh37 (list:List ByteArray) (with':ByteArray):Hint true Tryz.prog:=.call 37 (S37 list with') (ok37 list with') none
def F9 (line:ByteArray):ByteArray×Bool :=
 bif (bif (!(F11 line).2) then true else (!(F36 (F11 line).1))) then ((⟨#[]⟩:ByteArray),false) else ((F37 (F11 line).1 ⟨#[32]⟩),true)
theorem fi9 (line:ByteArray) (r:ByteArray×Bool) (hF:r=(F9 line)):((.string r.1:Value)=.string (F9 line).1)∧((.bool r.2:Value)=.bool (F9 line).2)∧True:=by cases hF; exact ⟨rfl,rfl,trivial⟩
def S9 (line:ByteArray):Spec:=⟨[.r (.c (.v (.string line)))],.tu [.v (.string (F9 line).1),.v (.bool (F9 line).2)],line.size≤1048576⟩
theorem ok9 (line:ByteArray):(S9 line).ok Tryz.prog 9 :=
 fnG_ok mixed (fn:=Tryz.f9) (ct:=.seq .no (.seq (.reg [(1,kh11 line)]) (.seq (.seq (.reg [(4,kh36 (F11 line).1)]) (.cond (.seq .no .no) .no)) (.seq (.reg [(1,kh37 (F11 line).1 w15_)]) .no)))) Tryz.func9 (fun (hpre0:line.size≤1048576)=>kc11 line (by omega) (fun gv1 gv2=>kg36 (!(F11 line).2) false (F11 line).1 (fun k3=>have _:=(notEF k3); (by first | assumption | exact gv2 | (intros; exact trivial) | (intros; exact Nat.zero_le _))) (ifb (bif (!(F11 line).2) then true else (!(F36 (F11 line).1))) (fun h4=>fi9 line (w13_,false) (condT h4 rfl)) (fun h4=>have _:=(notEF (orF1 h4)); kc37 (F11 line).1 w15_ (by first | assumption | omega | decide) (by first | assumption | omega | decide) (by first | assumption | omega | decide) (fi9 line ((F37 (F11 line).1 w15_),true) (condF h4 rfl)))))) (by kernel_rfl)
theorem line_same (line:ByteArray):F8 line=F9 line:=by
 unfold F8 F9
 rw [words_same,(form_same _).1,specJoin_eq]
 cases (F11 line).2 <;> cases F36 (F11 line).1 <;> rfl
def hostP (w:List ByteArray):Prop:=(w.getD 0 default).data.toList=[104,111,115,116]∧w.length=2∧F82 (w.getD 1 default)=true
def userP (w:List ByteArray):Prop:=(w.getD 0 default).data.toList=[117,115,101,114]∧w.length=3∧F82 (w.getD 1 default)=true∧F92 (w.getD 2 default)=true
def portP (w:List ByteArray):Prop:=(w.getD 0 default).data.toList=[112,111,114,116]∧(w.length=3∨w.length=5∧(w.getD 3 default).data.toList=[105,110]∧F82 (w.getD 4 default)=true)∧0≤F123 (w.getD 1 default)∧F123 (w.getD 1 default)≤7∧F94 (w.getD 2 default)=true
def ruleP (w:List ByteArray):Prop:=(w.getD 0 default).data.toList=[114,117,108,101]∧w.length=7∧F82 (w.getD 1 default)=true∧0≤F123 (w.getD 2 default)∧F123 (w.getD 2 default)≤99∧((w.getD 3 default).data.toList=[112,101,114,109,105,116]∨(w.getD 3 default).data.toList=[100,101,110,121])∧F94 (w.getD 4 default)=true∧F94 (w.getD 5 default)=true∧0≤F123 (w.getD 6 default)∧F123 (w.getD 6 default)≤7
def routeP (w:List ByteArray):Prop:=(w.getD 0 default).data.toList=[114,111,117,116,101]∧w.length=3∧F94 (w.getD 1 default)=true∧F95 (w.getD 2 default)≥0
def peerP (w:List ByteArray):Prop:=(w.getD 0 default).data.toList=[112,101,101,114]∧w.length=4∧F95 (w.getD 1 default)≥0∧1≤F123 (w.getD 2 default)∧F123 (w.getD 2 default)≤9∧1≤F123 (w.getD 3 default)∧F123 (w.getD 3 default)≤999999
def natP (w:List ByteArray):Prop:=(w.getD 0 default).data.toList=[110,97,116]∧w.length=5∧F94 (w.getD 1 default)=true∧F95 (w.getD 2 default)≥0∧1≤F123 (w.getD 3 default)∧F123 (w.getD 3 default)≤65535∧1≤F123 (w.getD 4 default)∧F123 (w.getD 4 default)≤65535
def doorP (w:List ByteArray):Prop:=(w.getD 0 default).data.toList=[100,111,111,114]∧w.length=5∧1≤F123 (w.getD 1 default)∧F123 (w.getD 1 default)≤7∧1≤F123 (w.getD 2 default)∧F123 (w.getD 2 default)≤65535∧F95 (w.getD 3 default)≥0∧1≤F123 (w.getD 4 default)∧F123 (w.getD 4 default)≤65535
def FormP (w:List ByteArray):Prop:=hostP w∨userP w∨portP w∨ruleP w∨routeP w∨peerP w∨natP w∨doorP w
theorem form_cases (w:List ByteArray) (hF:F36 w=true):FormP w:=by
 have hw:w.length≠0:=fun h=>by
  obtain rfl:=List.eq_nil_of_length_eq_zero h
  exact Bool.false_ne_true hF
 have h0:((w.length:Int)==0)=false:=by rw [beq_eq_false_iff_ne]; omega
 have e0:w.getD (Int.toNat 0) default=w.getD 0 default:=rfl
 have e1:w.getD (Int.toNat 1) default=w.getD 1 default:=rfl
 have e2:w.getD (Int.toNat 2) default=w.getD 2 default:=rfl
 have e3:w.getD (Int.toNat 3) default=w.getD 3 default:=rfl
 have e4:w.getD (Int.toNat 4) default=w.getD 4 default:=rfl
 have e5:w.getD (Int.toNat 5) default=w.getD 5 default:=rfl
 have e6:w.getD (Int.toNat 6) default=w.getD 6 default:=rfl
 have n2:=len_dec w 2
 have n3:=len_dec w 3
 have n4:=len_dec w 4
 have n5:=len_dec w 5
 have n7:=len_dec w 7
 simp only [Int.cast_ofNat_Int] at n2 n3 n4 n5 n7
 unfold F36 at hF
 simp only [h0,cond_false,e0,e1,e2,e3,e4,e5,e6,n2,n3,n4,n5,n7] at hF
 rcases Classical.em ((w.getD 0 default).data.toList=[104,111,115,116]) with h | hn0
 ·simp only [blit,h,hd00,cond_true,cond_false,cb1,cb2,Bool.and_eq_true,Bool.or_eq_true,decide_eq_true_eq,beq_iff_eq,and_assoc] at hF
  exact Or.inl ⟨h,hF⟩
 rcases Classical.em ((w.getD 0 default).data.toList=[117,115,101,114]) with h | hn1
 ·simp only [blit,h,hd10,hd11,cond_true,cond_false,cb1,cb2,Bool.and_eq_true,Bool.or_eq_true,decide_eq_true_eq,beq_iff_eq,and_assoc] at hF
  exact Or.inr (Or.inl ⟨h,hF⟩)
 rcases Classical.em ((w.getD 0 default).data.toList=[112,111,114,116]) with h | hn2
 ·simp only [blit,h,hd20,hd21,hd22,cond_true,cond_false,cb1,cb2,Bool.and_eq_true,Bool.or_eq_true,decide_eq_true_eq,beq_iff_eq,and_assoc] at hF
  exact Or.inr (Or.inr (Or.inl ⟨h,hF⟩))
 rcases Classical.em ((w.getD 0 default).data.toList=[114,117,108,101]) with h | hn3
 ·simp only [blit,h,hd30,hd31,hd32,hd33,cond_true,cond_false,cb1,cb2,Bool.and_eq_true,Bool.or_eq_true,decide_eq_true_eq,beq_iff_eq,and_assoc] at hF
  exact Or.inr (Or.inr (Or.inr (Or.inl ⟨h,hF⟩)))
 rcases Classical.em ((w.getD 0 default).data.toList=[114,111,117,116,101]) with h | hn4
 ·simp only [blit,h,hd40,hd41,hd42,hd43,hd44,cond_true,cond_false,cb1,cb2,Bool.and_eq_true,Bool.or_eq_true,decide_eq_true_eq,beq_iff_eq,and_assoc] at hF
  exact Or.inr (Or.inr (Or.inr (Or.inr (Or.inl ⟨h,hF⟩))))
 rcases Classical.em ((w.getD 0 default).data.toList=[112,101,101,114]) with h | hn5
 ·simp only [blit,h,hd50,hd51,hd52,hd53,hd54,hd55,cond_true,cond_false,cb1,cb2,Bool.and_eq_true,Bool.or_eq_true,decide_eq_true_eq,beq_iff_eq,and_assoc] at hF
  exact Or.inr (Or.inr (Or.inr (Or.inr (Or.inr (Or.inl ⟨h,hF⟩)))))
 rcases Classical.em ((w.getD 0 default).data.toList=[110,97,116]) with h | hn6
 ·simp only [blit,h,hd60,hd61,hd62,hd63,hd64,hd65,hd66,cond_true,cond_false,cb1,cb2,Bool.and_eq_true,Bool.or_eq_true,decide_eq_true_eq,beq_iff_eq,and_assoc] at hF
  exact Or.inr (Or.inr (Or.inr (Or.inr (Or.inr (Or.inr (Or.inl ⟨h,hF⟩))))))
 rcases Classical.em ((w.getD 0 default).data.toList=[100,111,111,114]) with h | hn7
 ·simp only [blit,h,hd70,hd71,hd72,hd73,hd74,hd75,hd76,hd77,cond_true,cond_false,cb1,cb2,Bool.and_eq_true,Bool.or_eq_true,decide_eq_true_eq,beq_iff_eq,and_assoc] at hF
  exact Or.inr (Or.inr (Or.inr (Or.inr (Or.inr (Or.inr (Or.inr (⟨h,hF⟩)))))))
 exfalso
 simp only [blit,beq_eq_false_iff_ne.2 hn0,beq_eq_false_iff_ne.2 hn1,beq_eq_false_iff_ne.2 hn2,beq_eq_false_iff_ne.2 hn3,beq_eq_false_iff_ne.2 hn4,beq_eq_false_iff_ne.2 hn5,beq_eq_false_iff_ne.2 hn6,beq_eq_false_iff_ne.2 hn7,cond_false] at hF
 exact Bool.false_ne_true hF
theorem form_two_le (w:List ByteArray) (h:FormP w):2≤w.length∧w.length≤7:=by
 unfold FormP hostP userP portP ruleP routeP peerP natP doorP at h
 omega
theorem form_key_le (w:List ByteArray) (h:FormP w):1≤keyN (w.getD 0 default).data.toList∧keyN (w.getD 0 default).data.toList≤3∧keyN (w.getD 0 default).data.toList≤(w.length:Int):=by
 rcases h with h | h | h | h | h | h | h | h
 ·have hk:keyN (w.getD 0 default).data.toList=1:=by rw [h.1]; decide
  unfold hostP at h
  omega
 ·have hk:keyN (w.getD 0 default).data.toList=2:=by rw [h.1]; decide
  unfold userP at h
  omega
 ·have hk:keyN (w.getD 0 default).data.toList=2:=by rw [h.1]; decide
  unfold portP at h
  omega
 ·have hk:keyN (w.getD 0 default).data.toList=3:=by rw [h.1]; decide
  unfold ruleP at h
  omega
 ·have hk:keyN (w.getD 0 default).data.toList=3:=by rw [h.1]; decide
  unfold routeP at h
  omega
 ·have hk:keyN (w.getD 0 default).data.toList=2:=by rw [h.1]; decide
  unfold peerP at h
  omega
 ·have hk:keyN (w.getD 0 default).data.toList=1:=by rw [h.1]; decide
  unfold natP at h
  omega
 ·have hk:keyN (w.getD 0 default).data.toList=3:=by rw [h.1]; decide
  unfold doorP at h
  omega
theorem splitL_no (c:UInt8):∀ (l:List UInt8),∀ w∈splitL c l,c ∉ w
 | [],w,h=>by rw [splitL,List.mem_singleton] at h; rw [h]; exact List.not_mem_nil
 | b :: l,w,h=>by
  have ih:=splitL_no c l
  rw [splitL] at h
  by_cases hb:b=c
  ·rw [if_pos hb] at h
   rcases List.mem_cons.1 h with rfl | h
   ·exact List.not_mem_nil
   ·exact ih w h
  ·rw [if_neg hb] at h
   have hbc:¬ c=b:=fun e=>hb e.symm
   cases hs:splitL c l with
   | nil =>
    rw [hs] at h
    rw [List.mem_singleton] at h; rw [h]
    intro hm; rcases List.mem_cons.1 hm with e | e
    ·exact hbc e
    ·cases e
   | cons p ps =>
    rw [hs] at h ih
    rcases List.mem_cons.1 h with rfl | h
    ·intro hm; rcases List.mem_cons.1 hm with e | e
     ·exact hbc e
     ·exact ih p List.mem_cons_self e
    ·exact ih w (List.mem_cons_of_mem _ h)
theorem split_join (c:UInt8):∀ (ws:List (List UInt8)),ws≠[]→(∀ w∈ws,c ∉ w)→splitL c (Lib.join ws [c])=ws
 | [],h,_=>absurd rfl h
 | [x],_,h=>by rw [Lib.join_one,splitL_none (h x List.mem_cons_self)]
 | x :: y :: r,_,h=>by
  have ih:=split_join c (y :: r) (by simp) fun w hw=>h w (List.mem_cons_of_mem _ hw)
  rw [Lib.join_cons]
  have e:Lib.joinTail [c] (y :: r)=c :: Lib.join (y :: r) [c]:=by rw [Lib.join_cons]; rfl
  rw [e,splitL_app _ (h x List.mem_cons_self),ih]
theorem word_no (line:ByteArray):∀ w∈(F11 line).1,(32:UInt8) ∉ w.data.toList∧w.data.toList≠[]∧w.size≤24:=by
 rw [spec_words]
 unfold wordsOf fitW
 cases h:(((cut3 line (⟨#[35]⟩:ByteArray)).1.data.toList.all okB)&&(decide ((wordsL (cut3 line (⟨#[35]⟩:ByteArray)).1.data.toList).length≤8)&&(wordsL (cut3 line (⟨#[35]⟩:ByteArray)).1.data.toList).all fun w=>decide (w.length≤24))) with
 | false=>intro w hw; rw [cond_false] at hw; cases hw
 | true =>
  rw [cond_true]
  simp only [Bool.and_eq_true] at h
  intro w hw
  obtain ⟨l,hl,rfl⟩:=List.mem_map.1 hw
  have h1:=of_decide_eq_true (List.all_eq_true.1 h.2.2 l hl)
  have h2:=List.mem_filter.1 hl
  refine ⟨splitL_no 32 _ l h2.1,?_,h1⟩
  intro e
  have e':l=[]:=e
  rw [e'] at h2
  exact Bool.false_ne_true h2.2
structure KeptP (line:ByteArray) (w:List ByteArray):Prop where
 words:F11 line=(w,true)
 form:FormP w
 joins:joinS w (⟨#[32]⟩:ByteArray)=line
 splits:splitS line (⟨#[32]⟩:ByteArray)=w
 no:∀ x∈w,(32:UInt8) ∉ x.data.toList∧x.data.toList≠[]∧x.size≤24
theorem join_split (w:List ByteArray) (h0:w≠[]) (h:∀ x∈w,(32:UInt8) ∉ x.data.toList):splitS (joinS w (⟨#[32]⟩:ByteArray)) (⟨#[32]⟩:ByteArray)=w:=by
 rw [splitS_mk]
 have e:(joinS w (⟨#[32]⟩:ByteArray)).data.toList=Lib.join (w.map (·.data.toList)) [32]:=rfl
 rw [e,split_join 32 _ (by simpa using h0) (fun x hx=>by obtain ⟨y,hy,rfl⟩:=List.mem_map.1 hx; exact h y hy),List.map_map]
 exact (List.map_congr_left fun x _=>mkB_self x).trans (List.map_id _)
theorem specLine_eq (line:ByteArray):F9 line=bif (F11 line).2&&F36 (F11 line).1 then (joinS (F11 line).1 (⟨#[32]⟩:ByteArray),true) else ((⟨#[]⟩:ByteArray),false):=by
 unfold F9
 rw [specJoin_eq]
 cases (F11 line).2 <;> cases F36 (F11 line).1 <;> rfl
theorem beq_ba (a b:ByteArray):(a.toList==b.toList)=decide (a=b):=by
 rw [byteToList,byteToList]
 by_cases h:a=b
 ·rw [h,decide_eq_true rfl]; simp
 ·rw [decide_eq_false h,beq_eq_false_iff_ne]; exact fun e=>h (ba_ext e)
theorem kept_of (line:ByteArray) (h:(F9 line).2=true∧(F9 line).1=line):KeptP line (F11 line).1:=by
 rw [specLine_eq] at h
 cases hc:((F11 line).2&&F36 (F11 line).1) with
 | false=>rw [hc,cond_false] at h; exact absurd h.1 Bool.false_ne_true
 | true =>
  rw [hc,cond_true] at h
  simp only [Bool.and_eq_true] at hc
  have hf:=form_cases _ hc.2
  have hn:=word_no line
  refine ⟨Prod.ext rfl hc.1,hf,h.2,?_,hn⟩
  have hne:(F11 line).1≠[]:=fun e=>by have:=(form_two_le _ hf).1; rw [e] at this; simp at this
  have:=join_split _ hne fun x hx=>(hn x hx).1
  have e:joinS (F11 line).1 (⟨#[32]⟩:ByteArray)=line:=h.2
  rwa [e] at this
theorem kc8 (line:ByteArray) {K_:Prop} (p0_:line.size≤1048576) (k_:K_):(line.size≤1048576)∧(Imp (.v (.string line)) (.v (.string line)))∧K_:=⟨p0_,Imp.refl _,k_⟩
abbrev kh8 (line:ByteArray):Hint false Tryz.prog:=.call 8 (S8 line) (ok8 line) none
def F46 (line:ByteArray):Bool :=
 (bif (F8 line).2 then ((F8 line).1.toList==line.toList) else false)
def S46 (line:ByteArray):Spec:=⟨[.r (.c (.v (.string line)))],.v (.bool (F46 line)),line.size≤1048576⟩
theorem ok46 (line:ByteArray):(S46 line).ok Tryz.prog 46 false :=
 fnG_ok mixed (fn:=Tryz.f46) (ct:=.seq .no (.seq (.reg [(1,kh8 line)]) (.seq .no .no))) Tryz.func46 (fun (hpre0:line.size≤1048576)=>kc8 line (by omega) (fiB (bif (F8 line).2 then ((F8 line).1.toList==line.toList) else false) (F46 line) rfl)) (by kernel_rfl)
theorem kc9 (line:ByteArray) {K_:Prop} (p0_:line.size≤1048576) (k_:K_):(line.size≤1048576)∧(Imp (.v (.string line)) (.v (.string line)))∧K_:=⟨p0_,Imp.refl _,k_⟩
abbrev kh9 (line:ByteArray):Hint true Tryz.prog:=.call 9 (S9 line) (ok9 line) none
def F47 (line:ByteArray):Bool :=
 (bif (F9 line).2 then ((F9 line).1.toList==line.toList) else false)
def S47 (line:ByteArray):Spec:=⟨[.r (.c (.v (.string line)))],.v (.bool (F47 line)),line.size≤1048576⟩
theorem ok47 (line:ByteArray):(S47 line).ok Tryz.prog 47 :=
 fnG_ok mixed (fn:=Tryz.f47) (ct:=.seq .no (.seq (.reg [(1,kh9 line)]) (.seq .no .no))) Tryz.func47 (fun (hpre0:line.size≤1048576)=>kc9 line (by omega) (fiB (bif (F9 line).2 then ((F9 line).1.toList==line.toList) else false) (F47 line) rfl)) (by kernel_rfl)
theorem keptSo_eq (line:ByteArray):F46 line=F47 line:=by
 unfold F46 F47
 rw [line_same]
theorem kept_iff (line:ByteArray):F47 line=true↔(F9 line).2=true∧(F9 line).1=line:=by
 unfold F47
 rw [cb1,beq_ba,Bool.and_eq_true,decide_eq_true_eq]
theorem keptP (line:ByteArray) (h:F47 line=true):KeptP line (F11 line).1:=kept_of line ((kept_iff line).1 h)
theorem not_false {b:Bool} (h:(!b)=false):b=true:=by cases b; exact h.symm; rfl
theorem kix_n (line:ByteArray) (hk:(!F47 line)=false):(2:Int)≤((F11 line).1.length:Int):=by
 have:=(form_two_le _ (keptP line (not_false hk)).form).1; omega
theorem kix0 (line:ByteArray) (hk:(!F47 line)=false):(0:Int)≤0∧(0:Int)<((F11 line).1.length:Int):=by have:=kix_n line hk; omega
theorem kix1 (line:ByteArray) (hk:(!F47 line)=false):(0:Int)≤1∧(1:Int)<((F11 line).1.length:Int):=by have:=kix_n line hk; omega
theorem kix_rule (line:ByteArray) (hk:(!F47 line)=false) (h:(((F11 line).1.getD (Int.toNat 0) default).toList==(⟨#[114,117,108,101]⟩:ByteArray).toList)=true):(0:Int)≤2∧(2:Int)<((F11 line).1.length:Int):=by
 have hf:=(keptP line (not_false hk)).form
 rw [blit,beq_iff_eq] at h
 have h:((F11 line).1.getD 0 default).data.toList=[114,117,108,101]:=h
 unfold FormP hostP userP portP ruleP routeP peerP natP doorP at hf
 simp only [h] at hf
 simp at hf
 omega
theorem kix_door (line:ByteArray) (hk:(!F47 line)=false) (h:(((F11 line).1.getD (Int.toNat 0) default).toList==(⟨#[100,111,111,114]⟩:ByteArray).toList)=true):(0:Int)≤2∧(2:Int)<((F11 line).1.length:Int):=by
 have hf:=(keptP line (not_false hk)).form
 rw [blit,beq_iff_eq] at h
 have h:((F11 line).1.getD 0 default).data.toList=[100,111,111,114]:=h
 unfold FormP hostP userP portP ruleP routeP peerP natP doorP at hf
 simp only [h] at hf
 simp at hf
 omega
theorem form_true (line:ByteArray) (h:F47 line=true):F36 (F11 line).1=true:=by
 have:=((kept_iff line).1 h).1
 rw [specLine_eq] at this
 cases hc:F36 (F11 line).1 with
 | true=>rfl
 | false=>rw [hc,Bool.and_false,cond_false] at this; exact this
theorem kept_form (line:ByteArray) (h:F47 line=true):(F34 (F41 line (⟨#[32]⟩:ByteArray))).1.key=keyN (((F11 line).1.getD 0 default).data.toList)∧F41 line (⟨#[32]⟩:ByteArray)=(F11 line).1:=by
 have hk:=keptP line h
 have e:F41 line (⟨#[32]⟩:ByteArray)=(F11 line).1:=hk.splits
 rw [e]
 obtain ⟨f1,f2⟩:=form_same (F11 line).1
 exact ⟨f2 (f1.trans (form_true line h)),rfl⟩
theorem kept_key (line:ByteArray) (h:F46 line=true):0≤((F34 (F41 line (⟨#[32]⟩:ByteArray))).1).key∧((F34 (F41 line (⟨#[32]⟩:ByteArray))).1).key≤((F41 line (⟨#[32]⟩:ByteArray)).length:Int):=by
 rw [keptSo_eq] at h
 obtain ⟨k1,k2⟩:=kept_form line h
 have:=form_key_le _ (keptP line h).form
 rw [k1,k2]
 omega
theorem split_sz (line:ByteArray) (h:line.size≤1048576):∀ k:Nat,((F41 line (⟨#[32]⟩:ByteArray)).getD k default).size≤1048576:=fun k=>by
 show ((splitS line (⟨#[32]⟩:ByteArray)).getD k default).size≤1048576
 rw [splitS_mk]
 refine getD_mk_le _ _ (fun w hw=>?_) k
 have:=splitL_le 32 _ w hw
 have hl:line.data.toList.length=line.size:=Array.length_toList
 omega
theorem take_getD (ws:List ByteArray) (n m:Nat) (h:∀ k:Nat,(ws.getD k default).size≤m) (k:Nat):((ws.take n).getD k default).size≤m:=by
 rw [List.getD_eq_getElem?_getD,List.getElem?_take]
 by_cases hk:k<n
 ·rw [if_pos hk,← List.getD_eq_getElem?_getD]; exact h k
 ·rw [if_neg hk]; exact Nat.zero_le _
theorem kept_join (line:ByteArray) (hk:(!F46 line)=false) :
  ((F41 line (⟨#[32]⟩:ByteArray)).take (Int.toNat (((F34 (F41 line (⟨#[32]⟩:ByteArray))).1).key))).length≤140737488355328 ∧
  (joinS ((F41 line (⟨#[32]⟩:ByteArray)).take (Int.toNat (((F34 (F41 line (⟨#[32]⟩:ByteArray))).1).key))) (⟨#[32]⟩:ByteArray)).size≤140737488355328:=by
 have h:=not_false hk
 rw [keptSo_eq] at h
 obtain ⟨k1,k2⟩:=kept_form line h
 rw [k2]
 have hl:(((F11 line).1).take (Int.toNat (((F34 ((F11 line).1)).1).key))).length≤8:=by
  rw [List.length_take]
  have:=specwords_len line
  omega
 exact ⟨Nat.le_trans hl (by decide),join_small _ _ (take_getD _ _ _ (specwords_sz line)) hl (by decide)⟩
theorem kc46 (line:ByteArray) {K_:Prop} (p0_:line.size≤1048576) (k_:K_):(line.size≤1048576)∧(Imp (.v (.string line)) (.v (.string line)))∧K_:=⟨p0_,Imp.refl _,k_⟩
abbrev kh46 (line:ByteArray):Hint false Tryz.prog:=.call 46 (S46 line) (ok46 line) none
def F13 (line:ByteArray):ByteArray :=
 bif (!(F46 line)) then (⟨#[]⟩:ByteArray) else (F35 ((F41 line ⟨#[32]⟩).take (Int.toNat (F34 (F41 line ⟨#[32]⟩)).1.key)) ⟨#[32]⟩)
def S13 (line:ByteArray):Spec:=⟨[.r (.c (.v (.string line)))],.v (.string (F13 line)),line.size≤1048576⟩
theorem ok13 (line:ByteArray):(S13 line).ok Tryz.prog 13 false :=
 fnG_ok mixed (fn:=Tryz.f13) (ct:=.seq .no (.seq (.seq (.reg [(1,kh46 line)]) (.cond (.seq .no .no) .no)) (.seq (.reg [(1,kh41f line w15_)]) (.seq (.reg [(1,kh34 (F41 line w15_))]) (.seq (.reg [(4,kh35 ((F41 line w15_).take (Int.toNat (F34 (F41 line w15_)).1.key)) w15_)]) .no))))) Tryz.func13 (fun (hpre0:line.size≤1048576)=>kc46 line (by omega) (ifb (!(F46 line)) (fun h1=>fiS w13_ (F13 line) (condT h1 rfl)) (fun h1=>have _:0≤(F34 (F41 line w15_)).1.key∧(F34 (F41 line w15_)).1.key≤((F41 line w15_).length:Int):=kept_key line (notEF h1); kc41 line w15_ (by omega) (by decide) (by decide) (by decide) (fun gv2 gv3=>kc34 (F41 line w15_) (by exact split_sz line (by omega)) (ai (by omega:0≤(0:Int)∧(0:Int)≤(F34 (F41 line w15_)).1.key∧(F34 (F41 line w15_)).1.key≤((F41 line w15_).length:Int)) (kc35 ((F41 line w15_).take (Int.toNat (F34 (F41 line w15_)).1.key)) w15_ (by exact (kept_join _ (by assumption)).1) (by exact (kept_join _ (by assumption)).2) (fiS (F35 ((F41 line w15_).take (Int.toNat (F34 (F41 line w15_)).1.key)) w15_) (F13 line) (condF h1 rfl)))))))) (by kernel_rfl)
theorem kc47 (line:ByteArray) {K_:Prop} (p0_:line.size≤1048576) (k_:K_):(line.size≤1048576)∧(Imp (.v (.string line)) (.v (.string line)))∧K_:=⟨p0_,Imp.refl _,k_⟩
abbrev kh47 (line:ByteArray):Hint true Tryz.prog:=.call 47 (S47 line) (ok47 line) none
def F14 (line:ByteArray):ByteArray :=
 bif (!(F47 line)) then (⟨#[]⟩:ByteArray) else (bif (((F11 line).1.getD (Int.toNat 0) default).toList==(⟨#[104,111,115,116]⟩:ByteArray).toList) then (bif (((F11 line).1.getD (Int.toNat 0) default).toList==(⟨#[104,111,115,116]⟩:ByteArray).toList) then ((F11 line).1.getD (Int.toNat 0) default) else (bif (((F11 line).1.getD (Int.toNat 0) default).toList==(⟨#[117,115,101,114]⟩:ByteArray).toList) then (bif (((F11 line).1.getD (Int.toNat 0) default).toList==(⟨#[117,115,101,114]⟩:ByteArray).toList) then ((((F11 line).1.getD (Int.toNat 0) default)++(⟨#[32]⟩:ByteArray))++((F11 line).1.getD (Int.toNat 1) default)) else (bif (((F11 line).1.getD (Int.toNat 0) default).toList==(⟨#[114,117,108,101]⟩:ByteArray).toList) then (bif (((F11 line).1.getD (Int.toNat 0) default).toList==(⟨#[114,117,108,101]⟩:ByteArray).toList) then ((((((F11 line).1.getD (Int.toNat 0) default)++(⟨#[32]⟩:ByteArray))++((F11 line).1.getD (Int.toNat 1) default))++(⟨#[32]⟩:ByteArray))++((F11 line).1.getD (Int.toNat 2) default)) else line) else (bif (((F11 line).1.getD (Int.toNat 0) default).toList==(⟨#[100,111,111,114]⟩:ByteArray).toList) then ((((((F11 line).1.getD (Int.toNat 0) default)++(⟨#[32]⟩:ByteArray))++((F11 line).1.getD (Int.toNat 1) default))++(⟨#[32]⟩:ByteArray))++((F11 line).1.getD (Int.toNat 2) default)) else line))) else (bif (((F11 line).1.getD (Int.toNat 0) default).toList==(⟨#[112,111,114,116]⟩:ByteArray).toList) then (bif (((F11 line).1.getD (Int.toNat 0) default).toList==(⟨#[112,111,114,116]⟩:ByteArray).toList) then ((((F11 line).1.getD (Int.toNat 0) default)++(⟨#[32]⟩:ByteArray))++((F11 line).1.getD (Int.toNat 1) default)) else (bif (((F11 line).1.getD (Int.toNat 0) default).toList==(⟨#[114,117,108,101]⟩:ByteArray).toList) then (bif (((F11 line).1.getD (Int.toNat 0) default).toList==(⟨#[114,117,108,101]⟩:ByteArray).toList) then ((((((F11 line).1.getD (Int.toNat 0) default)++(⟨#[32]⟩:ByteArray))++((F11 line).1.getD (Int.toNat 1) default))++(⟨#[32]⟩:ByteArray))++((F11 line).1.getD (Int.toNat 2) default)) else line) else (bif (((F11 line).1.getD (Int.toNat 0) default).toList==(⟨#[100,111,111,114]⟩:ByteArray).toList) then ((((((F11 line).1.getD (Int.toNat 0) default)++(⟨#[32]⟩:ByteArray))++((F11 line).1.getD (Int.toNat 1) default))++(⟨#[32]⟩:ByteArray))++((F11 line).1.getD (Int.toNat 2) default)) else line))) else (bif (((F11 line).1.getD (Int.toNat 0) default).toList==(⟨#[112,101,101,114]⟩:ByteArray).toList) then ((((F11 line).1.getD (Int.toNat 0) default)++(⟨#[32]⟩:ByteArray))++((F11 line).1.getD (Int.toNat 1) default)) else (bif (((F11 line).1.getD (Int.toNat 0) default).toList==(⟨#[114,117,108,101]⟩:ByteArray).toList) then (bif (((F11 line).1.getD (Int.toNat 0) default).toList==(⟨#[114,117,108,101]⟩:ByteArray).toList) then ((((((F11 line).1.getD (Int.toNat 0) default)++(⟨#[32]⟩:ByteArray))++((F11 line).1.getD (Int.toNat 1) default))++(⟨#[32]⟩:ByteArray))++((F11 line).1.getD (Int.toNat 2) default)) else line) else (bif (((F11 line).1.getD (Int.toNat 0) default).toList==(⟨#[100,111,111,114]⟩:ByteArray).toList) then ((((((F11 line).1.getD (Int.toNat 0) default)++(⟨#[32]⟩:ByteArray))++((F11 line).1.getD (Int.toNat 1) default))++(⟨#[32]⟩:ByteArray))++((F11 line).1.getD (Int.toNat 2) default)) else line)))))) else (bif (((F11 line).1.getD (Int.toNat 0) default).toList==(⟨#[110,97,116]⟩:ByteArray).toList) then ((F11 line).1.getD (Int.toNat 0) default) else (bif (((F11 line).1.getD (Int.toNat 0) default).toList==(⟨#[117,115,101,114]⟩:ByteArray).toList) then (bif (((F11 line).1.getD (Int.toNat 0) default).toList==(⟨#[117,115,101,114]⟩:ByteArray).toList) then ((((F11 line).1.getD (Int.toNat 0) default)++(⟨#[32]⟩:ByteArray))++((F11 line).1.getD (Int.toNat 1) default)) else (bif (((F11 line).1.getD (Int.toNat 0) default).toList==(⟨#[114,117,108,101]⟩:ByteArray).toList) then (bif (((F11 line).1.getD (Int.toNat 0) default).toList==(⟨#[114,117,108,101]⟩:ByteArray).toList) then ((((((F11 line).1.getD (Int.toNat 0) default)++(⟨#[32]⟩:ByteArray))++((F11 line).1.getD (Int.toNat 1) default))++(⟨#[32]⟩:ByteArray))++((F11 line).1.getD (Int.toNat 2) default)) else line) else (bif (((F11 line).1.getD (Int.toNat 0) default).toList==(⟨#[100,111,111,114]⟩:ByteArray).toList) then ((((((F11 line).1.getD (Int.toNat 0) default)++(⟨#[32]⟩:ByteArray))++((F11 line).1.getD (Int.toNat 1) default))++(⟨#[32]⟩:ByteArray))++((F11 line).1.getD (Int.toNat 2) default)) else line))) else (bif (((F11 line).1.getD (Int.toNat 0) default).toList==(⟨#[112,111,114,116]⟩:ByteArray).toList) then (bif (((F11 line).1.getD (Int.toNat 0) default).toList==(⟨#[112,111,114,116]⟩:ByteArray).toList) then ((((F11 line).1.getD (Int.toNat 0) default)++(⟨#[32]⟩:ByteArray))++((F11 line).1.getD (Int.toNat 1) default)) else (bif (((F11 line).1.getD (Int.toNat 0) default).toList==(⟨#[114,117,108,101]⟩:ByteArray).toList) then (bif (((F11 line).1.getD (Int.toNat 0) default).toList==(⟨#[114,117,108,101]⟩:ByteArray).toList) then ((((((F11 line).1.getD (Int.toNat 0) default)++(⟨#[32]⟩:ByteArray))++((F11 line).1.getD (Int.toNat 1) default))++(⟨#[32]⟩:ByteArray))++((F11 line).1.getD (Int.toNat 2) default)) else line) else (bif (((F11 line).1.getD (Int.toNat 0) default).toList==(⟨#[100,111,111,114]⟩:ByteArray).toList) then ((((((F11 line).1.getD (Int.toNat 0) default)++(⟨#[32]⟩:ByteArray))++((F11 line).1.getD (Int.toNat 1) default))++(⟨#[32]⟩:ByteArray))++((F11 line).1.getD (Int.toNat 2) default)) else line))) else (bif (((F11 line).1.getD (Int.toNat 0) default).toList==(⟨#[112,101,101,114]⟩:ByteArray).toList) then ((((F11 line).1.getD (Int.toNat 0) default)++(⟨#[32]⟩:ByteArray))++((F11 line).1.getD (Int.toNat 1) default)) else (bif (((F11 line).1.getD (Int.toNat 0) default).toList==(⟨#[114,117,108,101]⟩:ByteArray).toList) then (bif (((F11 line).1.getD (Int.toNat 0) default).toList==(⟨#[114,117,108,101]⟩:ByteArray).toList) then ((((((F11 line).1.getD (Int.toNat 0) default)++(⟨#[32]⟩:ByteArray))++((F11 line).1.getD (Int.toNat 1) default))++(⟨#[32]⟩:ByteArray))++((F11 line).1.getD (Int.toNat 2) default)) else line) else (bif (((F11 line).1.getD (Int.toNat 0) default).toList==(⟨#[100,111,111,114]⟩:ByteArray).toList) then ((((((F11 line).1.getD (Int.toNat 0) default)++(⟨#[32]⟩:ByteArray))++((F11 line).1.getD (Int.toNat 1) default))++(⟨#[32]⟩:ByteArray))++((F11 line).1.getD (Int.toNat 2) default)) else line)))))))
def S14 (line:ByteArray):Spec:=⟨[.r (.c (.v (.string line)))],.v (.string (F14 line)),line.size≤1048576⟩
theorem ok14 (line:ByteArray):(S14 line).ok Tryz.prog 14 :=
 fnG_ok mixed (fn:=Tryz.f14) (ct:=.seq .no (.seq (.seq (.reg [(1,kh47 line)]) (.cond (.seq .no .no) .no)) (.seq (.reg [(1,kh11 line)]) (.seq (.seq .no (.blk (.seq (.seq .no (.cond .no .no)) (.cond (.seq .no .no) (.seq (.seq .no (.cond .no (.seq .no (.cond .no .no)))) (.cond (.seq .no .no) (.seq (.seq .no (.cond .no .no)) (.cond (.seq .no .no) .no)))))))) (.seq .no .no))))) Tryz.func14 (fun (hpre0:line.size≤1048576)=>kc47 line (by omega) (ifb (!(F47 line)) (fun h1=>fiS w13_ (F14 line) (condT h1 rfl)) (fun h1=>kc11 line (by omega) (fun gv2 gv3=>ai (by (exact kix0 _ (by assumption)):0≤(0:Int)∧(0:Int)<((F11 line).1.length:Int)) (ifb (((F11 line).1.getD (Int.toNat 0) default).toList==w4_.toList) (fun h4=>ifb (((F11 line).1.getD (Int.toNat 0) default).toList==w4_.toList) (fun h5=>ai (by (exact kix0 _ (by assumption)):0≤(0:Int)∧(0:Int)<((F11 line).1.length:Int)) (fiS ((F11 line).1.getD (Int.toNat 0) default) (F14 line) (condF h1 (condT h4 (condT h5 rfl))))) (fun h5=>ifb (((F11 line).1.getD (Int.toNat 0) default).toList==w10_.toList) (fun h6=>ifb (((F11 line).1.getD (Int.toNat 0) default).toList==w10_.toList) (fun h7=>ai (by (exact kix0 _ (by assumption)):0≤(0:Int)∧(0:Int)<((F11 line).1.length:Int)) (ai (by (have hz:=specwords_sz line; have hz0:=hz (Int.toNat 0); have hz1:=hz (Int.toNat 1); have hz2:=hz (Int.toNat 2); have hs:w15_.size=1:=rfl; (try simp only [size_app] at *); omega):((((F11 line).1.getD (Int.toNat 0) default).size+w15_.size:Nat):Int)≤9223372036854775807) (ai (by (exact kix1 _ (by assumption)):0≤(1:Int)∧(1:Int)<((F11 line).1.length:Int)) (ai (by (have hz:=specwords_sz line; have hz0:=hz (Int.toNat 0); have hz1:=hz (Int.toNat 1); have hz2:=hz (Int.toNat 2); have hs:w15_.size=1:=rfl; (try simp only [size_app] at *); omega):(((((F11 line).1.getD (Int.toNat 0) default)++w15_).size+((F11 line).1.getD (Int.toNat 1) default).size:Nat):Int)≤9223372036854775807) (fiS ((((F11 line).1.getD (Int.toNat 0) default)++w15_)++((F11 line).1.getD (Int.toNat 1) default)) (F14 line) (condF h1 (condT h4 (condF h5 (condT h6 (condT h7 rfl)))))))))) (fun h7=>ifb (((F11 line).1.getD (Int.toNat 0) default).toList==w9_.toList) (fun h8=>ifb (((F11 line).1.getD (Int.toNat 0) default).toList==w9_.toList) (fun h9=>ai (by (exact kix0 _ (by assumption)):0≤(0:Int)∧(0:Int)<((F11 line).1.length:Int)) (ai (by (have hz:=specwords_sz line; have hz0:=hz (Int.toNat 0); have hz1:=hz (Int.toNat 1); have hz2:=hz (Int.toNat 2); have hs:w15_.size=1:=rfl; (try simp only [size_app] at *); omega):((((F11 line).1.getD (Int.toNat 0) default).size+w15_.size:Nat):Int)≤9223372036854775807) (ai (by (exact kix1 _ (by assumption)):0≤(1:Int)∧(1:Int)<((F11 line).1.length:Int)) (ai (by (have hz:=specwords_sz line; have hz0:=hz (Int.toNat 0); have hz1:=hz (Int.toNat 1); have hz2:=hz (Int.toNat 2); have hs:w15_.size=1:=rfl; (try simp only [size_app] at *); omega):(((((F11 line).1.getD (Int.toNat 0) default)++w15_).size+((F11 line).1.getD (Int.toNat 1) default).size:Nat):Int)≤9223372036854775807) (ai (by (have hz:=specwords_sz line; have hz0:=hz (Int.toNat 0); have hz1:=hz (Int.toNat 1); have hz2:=hz (Int.toNat 2); have hs:w15_.size=1:=rfl; (try simp only [size_app] at *); omega):((((((F11 line).1.getD (Int.toNat 0) default)++w15_)++((F11 line).1.getD (Int.toNat 1) default)).size+w15_.size:Nat):Int)≤9223372036854775807) (ai (by (exact kix_rule _ (by assumption) (by assumption)):0≤(2:Int)∧(2:Int)<((F11 line).1.length:Int)) (ai (by (have hz:=specwords_sz line; have hz0:=hz (Int.toNat 0); have hz1:=hz (Int.toNat 1); have hz2:=hz (Int.toNat 2); have hs:w15_.size=1:=rfl; (try simp only [size_app] at *); omega):(((((((F11 line).1.getD (Int.toNat 0) default)++w15_)++((F11 line).1.getD (Int.toNat 1) default))++w15_).size+((F11 line).1.getD (Int.toNat 2) default).size:Nat):Int)≤9223372036854775807) (fiS ((((((F11 line).1.getD (Int.toNat 0) default)++w15_)++((F11 line).1.getD (Int.toNat 1) default))++w15_)++((F11 line).1.getD (Int.toNat 2) default)) (F14 line) (condF h1 (condT h4 (condF h5 (condT h6 (condF h7 (condT h8 (condT h9 rfl))))))))))))))) (fun h9=>fiS line (F14 line) (condF h1 (condT h4 (condF h5 (condT h6 (condF h7 (condT h8 (condF h9 rfl))))))))) (fun h8=>ifb (((F11 line).1.getD (Int.toNat 0) default).toList==w3_.toList) (fun h10=>ai (by (exact kix0 _ (by assumption)):0≤(0:Int)∧(0:Int)<((F11 line).1.length:Int)) (ai (by (have hz:=specwords_sz line; have hz0:=hz (Int.toNat 0); have hz1:=hz (Int.toNat 1); have hz2:=hz (Int.toNat 2); have hs:w15_.size=1:=rfl; (try simp only [size_app] at *); omega):((((F11 line).1.getD (Int.toNat 0) default).size+w15_.size:Nat):Int)≤9223372036854775807) (ai (by (exact kix1 _ (by assumption)):0≤(1:Int)∧(1:Int)<((F11 line).1.length:Int)) (ai (by (have hz:=specwords_sz line; have hz0:=hz (Int.toNat 0); have hz1:=hz (Int.toNat 1); have hz2:=hz (Int.toNat 2); have hs:w15_.size=1:=rfl; (try simp only [size_app] at *); omega):(((((F11 line).1.getD (Int.toNat 0) default)++w15_).size+((F11 line).1.getD (Int.toNat 1) default).size:Nat):Int)≤9223372036854775807) (ai (by (have hz:=specwords_sz line; have hz0:=hz (Int.toNat 0); have hz1:=hz (Int.toNat 1); have hz2:=hz (Int.toNat 2); have hs:w15_.size=1:=rfl; (try simp only [size_app] at *); omega):((((((F11 line).1.getD (Int.toNat 0) default)++w15_)++((F11 line).1.getD (Int.toNat 1) default)).size+w15_.size:Nat):Int)≤9223372036854775807) (ai (by (exact kix_door _ (by assumption) (by assumption)):0≤(2:Int)∧(2:Int)<((F11 line).1.length:Int)) (ai (by (have hz:=specwords_sz line; have hz0:=hz (Int.toNat 0); have hz1:=hz (Int.toNat 1); have hz2:=hz (Int.toNat 2); have hs:w15_.size=1:=rfl; (try simp only [size_app] at *); omega):(((((((F11 line).1.getD (Int.toNat 0) default)++w15_)++((F11 line).1.getD (Int.toNat 1) default))++w15_).size+((F11 line).1.getD (Int.toNat 2) default).size:Nat):Int)≤9223372036854775807) (fiS ((((((F11 line).1.getD (Int.toNat 0) default)++w15_)++((F11 line).1.getD (Int.toNat 1) default))++w15_)++((F11 line).1.getD (Int.toNat 2) default)) (F14 line) (condF h1 (condT h4 (condF h5 (condT h6 (condF h7 (condF h8 (condT h10 rfl))))))))))))))) (fun h10=>fiS line (F14 line) (condF h1 (condT h4 (condF h5 (condT h6 (condF h7 (condF h8 (condF h10 rfl))))))))))) (fun h6=>ifb (((F11 line).1.getD (Int.toNat 0) default).toList==w7_.toList) (fun h11=>ifb (((F11 line).1.getD (Int.toNat 0) default).toList==w7_.toList) (fun h12=>ai (by (exact kix0 _ (by assumption)):0≤(0:Int)∧(0:Int)<((F11 line).1.length:Int)) (ai (by (have hz:=specwords_sz line; have hz0:=hz (Int.toNat 0); have hz1:=hz (Int.toNat 1); have hz2:=hz (Int.toNat 2); have hs:w15_.size=1:=rfl; (try simp only [size_app] at *); omega):((((F11 line).1.getD (Int.toNat 0) default).size+w15_.size:Nat):Int)≤9223372036854775807) (ai (by (exact kix1 _ (by assumption)):0≤(1:Int)∧(1:Int)<((F11 line).1.length:Int)) (ai (by (have hz:=specwords_sz line; have hz0:=hz (Int.toNat 0); have hz1:=hz (Int.toNat 1); have hz2:=hz (Int.toNat 2); have hs:w15_.size=1:=rfl; (try simp only [size_app] at *); omega):(((((F11 line).1.getD (Int.toNat 0) default)++w15_).size+((F11 line).1.getD (Int.toNat 1) default).size:Nat):Int)≤9223372036854775807) (fiS ((((F11 line).1.getD (Int.toNat 0) default)++w15_)++((F11 line).1.getD (Int.toNat 1) default)) (F14 line) (condF h1 (condT h4 (condF h5 (condF h6 (condT h11 (condT h12 rfl))))))))))) (fun h12=>ifb (((F11 line).1.getD (Int.toNat 0) default).toList==w9_.toList) (fun h13=>ifb (((F11 line).1.getD (Int.toNat 0) default).toList==w9_.toList) (fun h14=>ai (by (exact kix0 _ (by assumption)):0≤(0:Int)∧(0:Int)<((F11 line).1.length:Int)) (ai (by (have hz:=specwords_sz line; have hz0:=hz (Int.toNat 0); have hz1:=hz (Int.toNat 1); have hz2:=hz (Int.toNat 2); have hs:w15_.size=1:=rfl; (try simp only [size_app] at *); omega):((((F11 line).1.getD (Int.toNat 0) default).size+w15_.size:Nat):Int)≤9223372036854775807) (ai (by (exact kix1 _ (by assumption)):0≤(1:Int)∧(1:Int)<((F11 line).1.length:Int)) (ai (by (have hz:=specwords_sz line; have hz0:=hz (Int.toNat 0); have hz1:=hz (Int.toNat 1); have hz2:=hz (Int.toNat 2); have hs:w15_.size=1:=rfl; (try simp only [size_app] at *); omega):(((((F11 line).1.getD (Int.toNat 0) default)++w15_).size+((F11 line).1.getD (Int.toNat 1) default).size:Nat):Int)≤9223372036854775807) (ai (by (have hz:=specwords_sz line; have hz0:=hz (Int.toNat 0); have hz1:=hz (Int.toNat 1); have hz2:=hz (Int.toNat 2); have hs:w15_.size=1:=rfl; (try simp only [size_app] at *); omega):((((((F11 line).1.getD (Int.toNat 0) default)++w15_)++((F11 line).1.getD (Int.toNat 1) default)).size+w15_.size:Nat):Int)≤9223372036854775807) (ai (by (exact kix_rule _ (by assumption) (by assumption)):0≤(2:Int)∧(2:Int)<((F11 line).1.length:Int)) (ai (by (have hz:=specwords_sz line; have hz0:=hz (Int.toNat 0); have hz1:=hz (Int.toNat 1); have hz2:=hz (Int.toNat 2); have hs:w15_.size=1:=rfl; (try simp only [size_app] at *); omega):(((((((F11 line).1.getD (Int.toNat 0) default)++w15_)++((F11 line).1.getD (Int.toNat 1) default))++w15_).size+((F11 line).1.getD (Int.toNat 2) default).size:Nat):Int)≤9223372036854775807) (fiS ((((((F11 line).1.getD (Int.toNat 0) default)++w15_)++((F11 line).1.getD (Int.toNat 1) default))++w15_)++((F11 line).1.getD (Int.toNat 2) default)) (F14 line) (condF h1 (condT h4 (condF h5 (condF h6 (condT h11 (condF h12 (condT h13 (condT h14 rfl)))))))))))))))) (fun h14=>fiS line (F14 line) (condF h1 (condT h4 (condF h5 (condF h6 (condT h11 (condF h12 (condT h13 (condF h14 rfl)))))))))) (fun h13=>ifb (((F11 line).1.getD (Int.toNat 0) default).toList==w3_.toList) (fun h15=>ai (by (exact kix0 _ (by assumption)):0≤(0:Int)∧(0:Int)<((F11 line).1.length:Int)) (ai (by (have hz:=specwords_sz line; have hz0:=hz (Int.toNat 0); have hz1:=hz (Int.toNat 1); have hz2:=hz (Int.toNat 2); have hs:w15_.size=1:=rfl; (try simp only [size_app] at *); omega):((((F11 line).1.getD (Int.toNat 0) default).size+w15_.size:Nat):Int)≤9223372036854775807) (ai (by (exact kix1 _ (by assumption)):0≤(1:Int)∧(1:Int)<((F11 line).1.length:Int)) (ai (by (have hz:=specwords_sz line; have hz0:=hz (Int.toNat 0); have hz1:=hz (Int.toNat 1); have hz2:=hz (Int.toNat 2); have hs:w15_.size=1:=rfl; (try simp only [size_app] at *); omega):(((((F11 line).1.getD (Int.toNat 0) default)++w15_).size+((F11 line).1.getD (Int.toNat 1) default).size:Nat):Int)≤9223372036854775807) (ai (by (have hz:=specwords_sz line; have hz0:=hz (Int.toNat 0); have hz1:=hz (Int.toNat 1); have hz2:=hz (Int.toNat 2); have hs:w15_.size=1:=rfl; (try simp only [size_app] at *); omega):((((((F11 line).1.getD (Int.toNat 0) default)++w15_)++((F11 line).1.getD (Int.toNat 1) default)).size+w15_.size:Nat):Int)≤9223372036854775807) (ai (by (exact kix_door _ (by assumption) (by assumption)):0≤(2:Int)∧(2:Int)<((F11 line).1.length:Int)) (ai (by (have hz:=specwords_sz line; have hz0:=hz (Int.toNat 0); have hz1:=hz (Int.toNat 1); have hz2:=hz (Int.toNat 2); have hs:w15_.size=1:=rfl; (try simp only [size_app] at *); omega):(((((((F11 line).1.getD (Int.toNat 0) default)++w15_)++((F11 line).1.getD (Int.toNat 1) default))++w15_).size+((F11 line).1.getD (Int.toNat 2) default).size:Nat):Int)≤9223372036854775807) (fiS ((((((F11 line).1.getD (Int.toNat 0) default)++w15_)++((F11 line).1.getD (Int.toNat 1) default))++w15_)++((F11 line).1.getD (Int.toNat 2) default)) (F14 line) (condF h1 (condT h4 (condF h5 (condF h6 (condT h11 (condF h12 (condF h13 (condT h15 rfl)))))))))))))))) (fun h15=>fiS line (F14 line) (condF h1 (condT h4 (condF h5 (condF h6 (condT h11 (condF h12 (condF h13 (condF h15 rfl)))))))))))) (fun h11=>ifb (((F11 line).1.getD (Int.toNat 0) default).toList==w6_.toList) (fun h16=>ai (by (exact kix0 _ (by assumption)):0≤(0:Int)∧(0:Int)<((F11 line).1.length:Int)) (ai (by (have hz:=specwords_sz line; have hz0:=hz (Int.toNat 0); have hz1:=hz (Int.toNat 1); have hz2:=hz (Int.toNat 2); have hs:w15_.size=1:=rfl; (try simp only [size_app] at *); omega):((((F11 line).1.getD (Int.toNat 0) default).size+w15_.size:Nat):Int)≤9223372036854775807) (ai (by (exact kix1 _ (by assumption)):0≤(1:Int)∧(1:Int)<((F11 line).1.length:Int)) (ai (by (have hz:=specwords_sz line; have hz0:=hz (Int.toNat 0); have hz1:=hz (Int.toNat 1); have hz2:=hz (Int.toNat 2); have hs:w15_.size=1:=rfl; (try simp only [size_app] at *); omega):(((((F11 line).1.getD (Int.toNat 0) default)++w15_).size+((F11 line).1.getD (Int.toNat 1) default).size:Nat):Int)≤9223372036854775807) (fiS ((((F11 line).1.getD (Int.toNat 0) default)++w15_)++((F11 line).1.getD (Int.toNat 1) default)) (F14 line) (condF h1 (condT h4 (condF h5 (condF h6 (condF h11 (condT h16 rfl))))))))))) (fun h16=>ifb (((F11 line).1.getD (Int.toNat 0) default).toList==w9_.toList) (fun h17=>ifb (((F11 line).1.getD (Int.toNat 0) default).toList==w9_.toList) (fun h18=>ai (by (exact kix0 _ (by assumption)):0≤(0:Int)∧(0:Int)<((F11 line).1.length:Int)) (ai (by (have hz:=specwords_sz line; have hz0:=hz (Int.toNat 0); have hz1:=hz (Int.toNat 1); have hz2:=hz (Int.toNat 2); have hs:w15_.size=1:=rfl; (try simp only [size_app] at *); omega):((((F11 line).1.getD (Int.toNat 0) default).size+w15_.size:Nat):Int)≤9223372036854775807) (ai (by (exact kix1 _ (by assumption)):0≤(1:Int)∧(1:Int)<((F11 line).1.length:Int)) (ai (by (have hz:=specwords_sz line; have hz0:=hz (Int.toNat 0); have hz1:=hz (Int.toNat 1); have hz2:=hz (Int.toNat 2); have hs:w15_.size=1:=rfl; (try simp only [size_app] at *); omega):(((((F11 line).1.getD (Int.toNat 0) default)++w15_).size+((F11 line).1.getD (Int.toNat 1) default).size:Nat):Int)≤9223372036854775807) (ai (by (have hz:=specwords_sz line; have hz0:=hz (Int.toNat 0); have hz1:=hz (Int.toNat 1); have hz2:=hz (Int.toNat 2); have hs:w15_.size=1:=rfl; (try simp only [size_app] at *); omega):((((((F11 line).1.getD (Int.toNat 0) default)++w15_)++((F11 line).1.getD (Int.toNat 1) default)).size+w15_.size:Nat):Int)≤9223372036854775807) (ai (by (exact kix_rule _ (by assumption) (by assumption)):0≤(2:Int)∧(2:Int)<((F11 line).1.length:Int)) (ai (by (have hz:=specwords_sz line; have hz0:=hz (Int.toNat 0); have hz1:=hz (Int.toNat 1); have hz2:=hz (Int.toNat 2); have hs:w15_.size=1:=rfl; (try simp only [size_app] at *); omega):(((((((F11 line).1.getD (Int.toNat 0) default)++w15_)++((F11 line).1.getD (Int.toNat 1) default))++w15_).size+((F11 line).1.getD (Int.toNat 2) default).size:Nat):Int)≤9223372036854775807) (fiS ((((((F11 line).1.getD (Int.toNat 0) default)++w15_)++((F11 line).1.getD (Int.toNat 1) default))++w15_)++((F11 line).1.getD (Int.toNat 2) default)) (F14 line) (condF h1 (condT h4 (condF h5 (condF h6 (condF h11 (condF h16 (condT h17 (condT h18 rfl)))))))))))))))) (fun h18=>fiS line (F14 line) (condF h1 (condT h4 (condF h5 (condF h6 (condF h11 (condF h16 (condT h17 (condF h18 rfl)))))))))) (fun h17=>ifb (((F11 line).1.getD (Int.toNat 0) default).toList==w3_.toList) (fun h19=>ai (by (exact kix0 _ (by assumption)):0≤(0:Int)∧(0:Int)<((F11 line).1.length:Int)) (ai (by (have hz:=specwords_sz line; have hz0:=hz (Int.toNat 0); have hz1:=hz (Int.toNat 1); have hz2:=hz (Int.toNat 2); have hs:w15_.size=1:=rfl; (try simp only [size_app] at *); omega):((((F11 line).1.getD (Int.toNat 0) default).size+w15_.size:Nat):Int)≤9223372036854775807) (ai (by (exact kix1 _ (by assumption)):0≤(1:Int)∧(1:Int)<((F11 line).1.length:Int)) (ai (by (have hz:=specwords_sz line; have hz0:=hz (Int.toNat 0); have hz1:=hz (Int.toNat 1); have hz2:=hz (Int.toNat 2); have hs:w15_.size=1:=rfl; (try simp only [size_app] at *); omega):(((((F11 line).1.getD (Int.toNat 0) default)++w15_).size+((F11 line).1.getD (Int.toNat 1) default).size:Nat):Int)≤9223372036854775807) (ai (by (have hz:=specwords_sz line; have hz0:=hz (Int.toNat 0); have hz1:=hz (Int.toNat 1); have hz2:=hz (Int.toNat 2); have hs:w15_.size=1:=rfl; (try simp only [size_app] at *); omega):((((((F11 line).1.getD (Int.toNat 0) default)++w15_)++((F11 line).1.getD (Int.toNat 1) default)).size+w15_.size:Nat):Int)≤9223372036854775807) (ai (by (exact kix_door _ (by assumption) (by assumption)):0≤(2:Int)∧(2:Int)<((F11 line).1.length:Int)) (ai (by (have hz:=specwords_sz line; have hz0:=hz (Int.toNat 0); have hz1:=hz (Int.toNat 1); have hz2:=hz (Int.toNat 2); have hs:w15_.size=1:=rfl; (try simp only [size_app] at *); omega):(((((((F11 line).1.getD (Int.toNat 0) default)++w15_)++((F11 line).1.getD (Int.toNat 1) default))++w15_).size+((F11 line).1.getD (Int.toNat 2) default).size:Nat):Int)≤9223372036854775807) (fiS ((((((F11 line).1.getD (Int.toNat 0) default)++w15_)++((F11 line).1.getD (Int.toNat 1) default))++w15_)++((F11 line).1.getD (Int.toNat 2) default)) (F14 line) (condF h1 (condT h4 (condF h5 (condF h6 (condF h11 (condF h16 (condF h17 (condT h19 rfl)))))))))))))))) (fun h19=>fiS line (F14 line) (condF h1 (condT h4 (condF h5 (condF h6 (condF h11 (condF h16 (condF h17 (condF h19 rfl))))))))))))))) (fun h4=>ifb (((F11 line).1.getD (Int.toNat 0) default).toList==w5_.toList) (fun h20=>ai (by (exact kix0 _ (by assumption)):0≤(0:Int)∧(0:Int)<((F11 line).1.length:Int)) (fiS ((F11 line).1.getD (Int.toNat 0) default) (F14 line) (condF h1 (condF h4 (condT h20 rfl))))) (fun h20=>ifb (((F11 line).1.getD (Int.toNat 0) default).toList==w10_.toList) (fun h21=>ifb (((F11 line).1.getD (Int.toNat 0) default).toList==w10_.toList) (fun h22=>ai (by (exact kix0 _ (by assumption)):0≤(0:Int)∧(0:Int)<((F11 line).1.length:Int)) (ai (by (have hz:=specwords_sz line; have hz0:=hz (Int.toNat 0); have hz1:=hz (Int.toNat 1); have hz2:=hz (Int.toNat 2); have hs:w15_.size=1:=rfl; (try simp only [size_app] at *); omega):((((F11 line).1.getD (Int.toNat 0) default).size+w15_.size:Nat):Int)≤9223372036854775807) (ai (by (exact kix1 _ (by assumption)):0≤(1:Int)∧(1:Int)<((F11 line).1.length:Int)) (ai (by (have hz:=specwords_sz line; have hz0:=hz (Int.toNat 0); have hz1:=hz (Int.toNat 1); have hz2:=hz (Int.toNat 2); have hs:w15_.size=1:=rfl; (try simp only [size_app] at *); omega):(((((F11 line).1.getD (Int.toNat 0) default)++w15_).size+((F11 line).1.getD (Int.toNat 1) default).size:Nat):Int)≤9223372036854775807) (fiS ((((F11 line).1.getD (Int.toNat 0) default)++w15_)++((F11 line).1.getD (Int.toNat 1) default)) (F14 line) (condF h1 (condF h4 (condF h20 (condT h21 (condT h22 rfl)))))))))) (fun h22=>ifb (((F11 line).1.getD (Int.toNat 0) default).toList==w9_.toList) (fun h23=>ifb (((F11 line).1.getD (Int.toNat 0) default).toList==w9_.toList) (fun h24=>ai (by (exact kix0 _ (by assumption)):0≤(0:Int)∧(0:Int)<((F11 line).1.length:Int)) (ai (by (have hz:=specwords_sz line; have hz0:=hz (Int.toNat 0); have hz1:=hz (Int.toNat 1); have hz2:=hz (Int.toNat 2); have hs:w15_.size=1:=rfl; (try simp only [size_app] at *); omega):((((F11 line).1.getD (Int.toNat 0) default).size+w15_.size:Nat):Int)≤9223372036854775807) (ai (by (exact kix1 _ (by assumption)):0≤(1:Int)∧(1:Int)<((F11 line).1.length:Int)) (ai (by (have hz:=specwords_sz line; have hz0:=hz (Int.toNat 0); have hz1:=hz (Int.toNat 1); have hz2:=hz (Int.toNat 2); have hs:w15_.size=1:=rfl; (try simp only [size_app] at *); omega):(((((F11 line).1.getD (Int.toNat 0) default)++w15_).size+((F11 line).1.getD (Int.toNat 1) default).size:Nat):Int)≤9223372036854775807) (ai (by (have hz:=specwords_sz line; have hz0:=hz (Int.toNat 0); have hz1:=hz (Int.toNat 1); have hz2:=hz (Int.toNat 2); have hs:w15_.size=1:=rfl; (try simp only [size_app] at *); omega):((((((F11 line).1.getD (Int.toNat 0) default)++w15_)++((F11 line).1.getD (Int.toNat 1) default)).size+w15_.size:Nat):Int)≤9223372036854775807) (ai (by (exact kix_rule _ (by assumption) (by assumption)):0≤(2:Int)∧(2:Int)<((F11 line).1.length:Int)) (ai (by (have hz:=specwords_sz line; have hz0:=hz (Int.toNat 0); have hz1:=hz (Int.toNat 1); have hz2:=hz (Int.toNat 2); have hs:w15_.size=1:=rfl; (try simp only [size_app] at *); omega):(((((((F11 line).1.getD (Int.toNat 0) default)++w15_)++((F11 line).1.getD (Int.toNat 1) default))++w15_).size+((F11 line).1.getD (Int.toNat 2) default).size:Nat):Int)≤9223372036854775807) (fiS ((((((F11 line).1.getD (Int.toNat 0) default)++w15_)++((F11 line).1.getD (Int.toNat 1) default))++w15_)++((F11 line).1.getD (Int.toNat 2) default)) (F14 line) (condF h1 (condF h4 (condF h20 (condT h21 (condF h22 (condT h23 (condT h24 rfl))))))))))))))) (fun h24=>fiS line (F14 line) (condF h1 (condF h4 (condF h20 (condT h21 (condF h22 (condT h23 (condF h24 rfl))))))))) (fun h23=>ifb (((F11 line).1.getD (Int.toNat 0) default).toList==w3_.toList) (fun h25=>ai (by (exact kix0 _ (by assumption)):0≤(0:Int)∧(0:Int)<((F11 line).1.length:Int)) (ai (by (have hz:=specwords_sz line; have hz0:=hz (Int.toNat 0); have hz1:=hz (Int.toNat 1); have hz2:=hz (Int.toNat 2); have hs:w15_.size=1:=rfl; (try simp only [size_app] at *); omega):((((F11 line).1.getD (Int.toNat 0) default).size+w15_.size:Nat):Int)≤9223372036854775807) (ai (by (exact kix1 _ (by assumption)):0≤(1:Int)∧(1:Int)<((F11 line).1.length:Int)) (ai (by (have hz:=specwords_sz line; have hz0:=hz (Int.toNat 0); have hz1:=hz (Int.toNat 1); have hz2:=hz (Int.toNat 2); have hs:w15_.size=1:=rfl; (try simp only [size_app] at *); omega):(((((F11 line).1.getD (Int.toNat 0) default)++w15_).size+((F11 line).1.getD (Int.toNat 1) default).size:Nat):Int)≤9223372036854775807) (ai (by (have hz:=specwords_sz line; have hz0:=hz (Int.toNat 0); have hz1:=hz (Int.toNat 1); have hz2:=hz (Int.toNat 2); have hs:w15_.size=1:=rfl; (try simp only [size_app] at *); omega):((((((F11 line).1.getD (Int.toNat 0) default)++w15_)++((F11 line).1.getD (Int.toNat 1) default)).size+w15_.size:Nat):Int)≤9223372036854775807) (ai (by (exact kix_door _ (by assumption) (by assumption)):0≤(2:Int)∧(2:Int)<((F11 line).1.length:Int)) (ai (by (have hz:=specwords_sz line; have hz0:=hz (Int.toNat 0); have hz1:=hz (Int.toNat 1); have hz2:=hz (Int.toNat 2); have hs:w15_.size=1:=rfl; (try simp only [size_app] at *); omega):(((((((F11 line).1.getD (Int.toNat 0) default)++w15_)++((F11 line).1.getD (Int.toNat 1) default))++w15_).size+((F11 line).1.getD (Int.toNat 2) default).size:Nat):Int)≤9223372036854775807) (fiS ((((((F11 line).1.getD (Int.toNat 0) default)++w15_)++((F11 line).1.getD (Int.toNat 1) default))++w15_)++((F11 line).1.getD (Int.toNat 2) default)) (F14 line) (condF h1 (condF h4 (condF h20 (condT h21 (condF h22 (condF h23 (condT h25 rfl))))))))))))))) (fun h25=>fiS line (F14 line) (condF h1 (condF h4 (condF h20 (condT h21 (condF h22 (condF h23 (condF h25 rfl))))))))))) (fun h21=>ifb (((F11 line).1.getD (Int.toNat 0) default).toList==w7_.toList) (fun h26=>ifb (((F11 line).1.getD (Int.toNat 0) default).toList==w7_.toList) (fun h27=>ai (by (exact kix0 _ (by assumption)):0≤(0:Int)∧(0:Int)<((F11 line).1.length:Int)) (ai (by (have hz:=specwords_sz line; have hz0:=hz (Int.toNat 0); have hz1:=hz (Int.toNat 1); have hz2:=hz (Int.toNat 2); have hs:w15_.size=1:=rfl; (try simp only [size_app] at *); omega):((((F11 line).1.getD (Int.toNat 0) default).size+w15_.size:Nat):Int)≤9223372036854775807) (ai (by (exact kix1 _ (by assumption)):0≤(1:Int)∧(1:Int)<((F11 line).1.length:Int)) (ai (by (have hz:=specwords_sz line; have hz0:=hz (Int.toNat 0); have hz1:=hz (Int.toNat 1); have hz2:=hz (Int.toNat 2); have hs:w15_.size=1:=rfl; (try simp only [size_app] at *); omega):(((((F11 line).1.getD (Int.toNat 0) default)++w15_).size+((F11 line).1.getD (Int.toNat 1) default).size:Nat):Int)≤9223372036854775807) (fiS ((((F11 line).1.getD (Int.toNat 0) default)++w15_)++((F11 line).1.getD (Int.toNat 1) default)) (F14 line) (condF h1 (condF h4 (condF h20 (condF h21 (condT h26 (condT h27 rfl))))))))))) (fun h27=>ifb (((F11 line).1.getD (Int.toNat 0) default).toList==w9_.toList) (fun h28=>ifb (((F11 line).1.getD (Int.toNat 0) default).toList==w9_.toList) (fun h29=>ai (by (exact kix0 _ (by assumption)):0≤(0:Int)∧(0:Int)<((F11 line).1.length:Int)) (ai (by (have hz:=specwords_sz line; have hz0:=hz (Int.toNat 0); have hz1:=hz (Int.toNat 1); have hz2:=hz (Int.toNat 2); have hs:w15_.size=1:=rfl; (try simp only [size_app] at *); omega):((((F11 line).1.getD (Int.toNat 0) default).size+w15_.size:Nat):Int)≤9223372036854775807) (ai (by (exact kix1 _ (by assumption)):0≤(1:Int)∧(1:Int)<((F11 line).1.length:Int)) (ai (by (have hz:=specwords_sz line; have hz0:=hz (Int.toNat 0); have hz1:=hz (Int.toNat 1); have hz2:=hz (Int.toNat 2); have hs:w15_.size=1:=rfl; (try simp only [size_app] at *); omega):(((((F11 line).1.getD (Int.toNat 0) default)++w15_).size+((F11 line).1.getD (Int.toNat 1) default).size:Nat):Int)≤9223372036854775807) (ai (by (have hz:=specwords_sz line; have hz0:=hz (Int.toNat 0); have hz1:=hz (Int.toNat 1); have hz2:=hz (Int.toNat 2); have hs:w15_.size=1:=rfl; (try simp only [size_app] at *); omega):((((((F11 line).1.getD (Int.toNat 0) default)++w15_)++((F11 line).1.getD (Int.toNat 1) default)).size+w15_.size:Nat):Int)≤9223372036854775807) (ai (by (exact kix_rule _ (by assumption) (by assumption)):0≤(2:Int)∧(2:Int)<((F11 line).1.length:Int)) (ai (by (have hz:=specwords_sz line; have hz0:=hz (Int.toNat 0); have hz1:=hz (Int.toNat 1); have hz2:=hz (Int.toNat 2); have hs:w15_.size=1:=rfl; (try simp only [size_app] at *); omega):(((((((F11 line).1.getD (Int.toNat 0) default)++w15_)++((F11 line).1.getD (Int.toNat 1) default))++w15_).size+((F11 line).1.getD (Int.toNat 2) default).size:Nat):Int)≤9223372036854775807) (fiS ((((((F11 line).1.getD (Int.toNat 0) default)++w15_)++((F11 line).1.getD (Int.toNat 1) default))++w15_)++((F11 line).1.getD (Int.toNat 2) default)) (F14 line) (condF h1 (condF h4 (condF h20 (condF h21 (condT h26 (condF h27 (condT h28 (condT h29 rfl)))))))))))))))) (fun h29=>fiS line (F14 line) (condF h1 (condF h4 (condF h20 (condF h21 (condT h26 (condF h27 (condT h28 (condF h29 rfl)))))))))) (fun h28=>ifb (((F11 line).1.getD (Int.toNat 0) default).toList==w3_.toList) (fun h30=>ai (by (exact kix0 _ (by assumption)):0≤(0:Int)∧(0:Int)<((F11 line).1.length:Int)) (ai (by (have hz:=specwords_sz line; have hz0:=hz (Int.toNat 0); have hz1:=hz (Int.toNat 1); have hz2:=hz (Int.toNat 2); have hs:w15_.size=1:=rfl; (try simp only [size_app] at *); omega):((((F11 line).1.getD (Int.toNat 0) default).size+w15_.size:Nat):Int)≤9223372036854775807) (ai (by (exact kix1 _ (by assumption)):0≤(1:Int)∧(1:Int)<((F11 line).1.length:Int)) (ai (by (have hz:=specwords_sz line; have hz0:=hz (Int.toNat 0); have hz1:=hz (Int.toNat 1); have hz2:=hz (Int.toNat 2); have hs:w15_.size=1:=rfl; (try simp only [size_app] at *); omega):(((((F11 line).1.getD (Int.toNat 0) default)++w15_).size+((F11 line).1.getD (Int.toNat 1) default).size:Nat):Int)≤9223372036854775807) (ai (by (have hz:=specwords_sz line; have hz0:=hz (Int.toNat 0); have hz1:=hz (Int.toNat 1); have hz2:=hz (Int.toNat 2); have hs:w15_.size=1:=rfl; (try simp only [size_app] at *); omega):((((((F11 line).1.getD (Int.toNat 0) default)++w15_)++((F11 line).1.getD (Int.toNat 1) default)).size+w15_.size:Nat):Int)≤9223372036854775807) (ai (by (exact kix_door _ (by assumption) (by assumption)):0≤(2:Int)∧(2:Int)<((F11 line).1.length:Int)) (ai (by (have hz:=specwords_sz line; have hz0:=hz (Int.toNat 0); have hz1:=hz (Int.toNat 1); have hz2:=hz (Int.toNat 2); have hs:w15_.size=1:=rfl; (try simp only [size_app] at *); omega):(((((((F11 line).1.getD (Int.toNat 0) default)++w15_)++((F11 line).1.getD (Int.toNat 1) default))++w15_).size+((F11 line).1.getD (Int.toNat 2) default).size:Nat):Int)≤9223372036854775807) (fiS ((((((F11 line).1.getD (Int.toNat 0) default)++w15_)++((F11 line).1.getD (Int.toNat 1) default))++w15_)++((F11 line).1.getD (Int.toNat 2) default)) (F14 line) (condF h1 (condF h4 (condF h20 (condF h21 (condT h26 (condF h27 (condF h28 (condT h30 rfl)))))))))))))))) (fun h30=>fiS line (F14 line) (condF h1 (condF h4 (condF h20 (condF h21 (condT h26 (condF h27 (condF h28 (condF h30 rfl)))))))))))) (fun h26=>ifb (((F11 line).1.getD (Int.toNat 0) default).toList==w6_.toList) (fun h31=>ai (by (exact kix0 _ (by assumption)):0≤(0:Int)∧(0:Int)<((F11 line).1.length:Int)) (ai (by (have hz:=specwords_sz line; have hz0:=hz (Int.toNat 0); have hz1:=hz (Int.toNat 1); have hz2:=hz (Int.toNat 2); have hs:w15_.size=1:=rfl; (try simp only [size_app] at *); omega):((((F11 line).1.getD (Int.toNat 0) default).size+w15_.size:Nat):Int)≤9223372036854775807) (ai (by (exact kix1 _ (by assumption)):0≤(1:Int)∧(1:Int)<((F11 line).1.length:Int)) (ai (by (have hz:=specwords_sz line; have hz0:=hz (Int.toNat 0); have hz1:=hz (Int.toNat 1); have hz2:=hz (Int.toNat 2); have hs:w15_.size=1:=rfl; (try simp only [size_app] at *); omega):(((((F11 line).1.getD (Int.toNat 0) default)++w15_).size+((F11 line).1.getD (Int.toNat 1) default).size:Nat):Int)≤9223372036854775807) (fiS ((((F11 line).1.getD (Int.toNat 0) default)++w15_)++((F11 line).1.getD (Int.toNat 1) default)) (F14 line) (condF h1 (condF h4 (condF h20 (condF h21 (condF h26 (condT h31 rfl))))))))))) (fun h31=>ifb (((F11 line).1.getD (Int.toNat 0) default).toList==w9_.toList) (fun h32=>ifb (((F11 line).1.getD (Int.toNat 0) default).toList==w9_.toList) (fun h33=>ai (by (exact kix0 _ (by assumption)):0≤(0:Int)∧(0:Int)<((F11 line).1.length:Int)) (ai (by (have hz:=specwords_sz line; have hz0:=hz (Int.toNat 0); have hz1:=hz (Int.toNat 1); have hz2:=hz (Int.toNat 2); have hs:w15_.size=1:=rfl; (try simp only [size_app] at *); omega):((((F11 line).1.getD (Int.toNat 0) default).size+w15_.size:Nat):Int)≤9223372036854775807) (ai (by (exact kix1 _ (by assumption)):0≤(1:Int)∧(1:Int)<((F11 line).1.length:Int)) (ai (by (have hz:=specwords_sz line; have hz0:=hz (Int.toNat 0); have hz1:=hz (Int.toNat 1); have hz2:=hz (Int.toNat 2); have hs:w15_.size=1:=rfl; (try simp only [size_app] at *); omega):(((((F11 line).1.getD (Int.toNat 0) default)++w15_).size+((F11 line).1.getD (Int.toNat 1) default).size:Nat):Int)≤9223372036854775807) (ai (by (have hz:=specwords_sz line; have hz0:=hz (Int.toNat 0); have hz1:=hz (Int.toNat 1); have hz2:=hz (Int.toNat 2); have hs:w15_.size=1:=rfl; (try simp only [size_app] at *); omega):((((((F11 line).1.getD (Int.toNat 0) default)++w15_)++((F11 line).1.getD (Int.toNat 1) default)).size+w15_.size:Nat):Int)≤9223372036854775807) (ai (by (exact kix_rule _ (by assumption) (by assumption)):0≤(2:Int)∧(2:Int)<((F11 line).1.length:Int)) (ai (by (have hz:=specwords_sz line; have hz0:=hz (Int.toNat 0); have hz1:=hz (Int.toNat 1); have hz2:=hz (Int.toNat 2); have hs:w15_.size=1:=rfl; (try simp only [size_app] at *); omega):(((((((F11 line).1.getD (Int.toNat 0) default)++w15_)++((F11 line).1.getD (Int.toNat 1) default))++w15_).size+((F11 line).1.getD (Int.toNat 2) default).size:Nat):Int)≤9223372036854775807) (fiS ((((((F11 line).1.getD (Int.toNat 0) default)++w15_)++((F11 line).1.getD (Int.toNat 1) default))++w15_)++((F11 line).1.getD (Int.toNat 2) default)) (F14 line) (condF h1 (condF h4 (condF h20 (condF h21 (condF h26 (condF h31 (condT h32 (condT h33 rfl)))))))))))))))) (fun h33=>fiS line (F14 line) (condF h1 (condF h4 (condF h20 (condF h21 (condF h26 (condF h31 (condT h32 (condF h33 rfl)))))))))) (fun h32=>ifb (((F11 line).1.getD (Int.toNat 0) default).toList==w3_.toList) (fun h34=>ai (by (exact kix0 _ (by assumption)):0≤(0:Int)∧(0:Int)<((F11 line).1.length:Int)) (ai (by (have hz:=specwords_sz line; have hz0:=hz (Int.toNat 0); have hz1:=hz (Int.toNat 1); have hz2:=hz (Int.toNat 2); have hs:w15_.size=1:=rfl; (try simp only [size_app] at *); omega):((((F11 line).1.getD (Int.toNat 0) default).size+w15_.size:Nat):Int)≤9223372036854775807) (ai (by (exact kix1 _ (by assumption)):0≤(1:Int)∧(1:Int)<((F11 line).1.length:Int)) (ai (by (have hz:=specwords_sz line; have hz0:=hz (Int.toNat 0); have hz1:=hz (Int.toNat 1); have hz2:=hz (Int.toNat 2); have hs:w15_.size=1:=rfl; (try simp only [size_app] at *); omega):(((((F11 line).1.getD (Int.toNat 0) default)++w15_).size+((F11 line).1.getD (Int.toNat 1) default).size:Nat):Int)≤9223372036854775807) (ai (by (have hz:=specwords_sz line; have hz0:=hz (Int.toNat 0); have hz1:=hz (Int.toNat 1); have hz2:=hz (Int.toNat 2); have hs:w15_.size=1:=rfl; (try simp only [size_app] at *); omega):((((((F11 line).1.getD (Int.toNat 0) default)++w15_)++((F11 line).1.getD (Int.toNat 1) default)).size+w15_.size:Nat):Int)≤9223372036854775807) (ai (by (exact kix_door _ (by assumption) (by assumption)):0≤(2:Int)∧(2:Int)<((F11 line).1.length:Int)) (ai (by (have hz:=specwords_sz line; have hz0:=hz (Int.toNat 0); have hz1:=hz (Int.toNat 1); have hz2:=hz (Int.toNat 2); have hs:w15_.size=1:=rfl; (try simp only [size_app] at *); omega):(((((((F11 line).1.getD (Int.toNat 0) default)++w15_)++((F11 line).1.getD (Int.toNat 1) default))++w15_).size+((F11 line).1.getD (Int.toNat 2) default).size:Nat):Int)≤9223372036854775807) (fiS ((((((F11 line).1.getD (Int.toNat 0) default)++w15_)++((F11 line).1.getD (Int.toNat 1) default))++w15_)++((F11 line).1.getD (Int.toNat 2) default)) (F14 line) (condF h1 (condF h4 (condF h20 (condF h21 (condF h26 (condF h31 (condF h32 (condT h34 rfl)))))))))))))))) (fun h34=>fiS line (F14 line) (condF h1 (condF h4 (condF h20 (condF h21 (condF h26 (condF h31 (condF h32 (condF h34 rfl)))))))))))))))))))) (by kernel_rfl)
theorem join1 (a sp:ByteArray):joinS [a] sp=a:=ba_ext (by show Lib.join _ _=_; exact Lib.join_one _ _)
theorem joinS_data (ws:List ByteArray) (sp:ByteArray):(joinS ws sp).data.toList=Lib.join (ws.map (·.data.toList)) sp.data.toList:=rfl
theorem join2 (a b sp:ByteArray):joinS [a,b] sp=(a++sp)++b:=ba_ext (by
 rw [joinS_data,List.map_cons,Lib.join_cons]
 simp [Lib.joinTail,ByteArray.data_append,Array.toList_append,List.append_assoc])
theorem join3 (a b c sp:ByteArray):joinS [a,b,c] sp=(((a++sp)++b)++sp)++c:=ba_ext (by
 rw [joinS_data,List.map_cons,Lib.join_cons]
 simp [Lib.joinTail,ByteArray.data_append,Array.toList_append,List.append_assoc])
theorem take_one (w:List ByteArray) (h:1≤w.length):w.take 1=[w.getD 0 default]:=by
 match w,h with
 | a :: _,_=>rfl
theorem take_two (w:List ByteArray) (h:2≤w.length):w.take 2=[w.getD 0 default,w.getD 1 default]:=by
 match w,h with
 | a :: b :: _,_=>rfl
theorem take_three (w:List ByteArray) (h:3≤w.length):w.take 3=[w.getD 0 default,w.getD 1 default,w.getD 2 default]:=by
 match w,h with
 | a :: b :: c :: _,_=>rfl
theorem key_eq (line:ByteArray) (h:F47 line=true):F14 line=joinS ((F11 line).1.take (keyN (((F11 line).1.getD 0 default).data.toList)).toNat) (⟨#[32]⟩:ByteArray):=by
 have hk:=keptP line h
 have hj:=hk.joins
 unfold F14
 have e0:(F11 line).1.getD (Int.toNat 0) default=(F11 line).1.getD 0 default:=rfl
 have e1:(F11 line).1.getD (Int.toNat 1) default=(F11 line).1.getD 1 default:=rfl
 have e2:(F11 line).1.getD (Int.toNat 2) default=(F11 line).1.getD 2 default:=rfl
 simp only [h,Bool.not_true,cond_false,e0,e1,e2,blit]
 have hf:=hk.form
 generalize (F11 line).1=w at hf hj
 rcases hf with hf | hf | hf | hf | hf | hf | hf | hf
 ·have h0:=hf.1
  have hn:keyN (w.getD 0 default).data.toList=1:=by rw [h0]; decide
  have hl:2≤w.length:=by unfold hostP at hf; omega
  rw [hn,show ((1:Int).toNat)=1 from rfl]
  simp only [h0,show (([104,111,115,116]:List UInt8)==([104,111,115,116]:List UInt8))=true from by decide ,show (([104,111,115,116]:List UInt8)==([117,115,101,114]:List UInt8))=false from by decide ,show (([104,111,115,116]:List UInt8)==([112,111,114,116]:List UInt8))=false from by decide ,show (([104,111,115,116]:List UInt8)==([114,117,108,101]:List UInt8))=false from by decide ,show (([104,111,115,116]:List UInt8)==([114,111,117,116,101]:List UInt8))=false from by decide ,show (([104,111,115,116]:List UInt8)==([112,101,101,114]:List UInt8))=false from by decide ,show (([104,111,115,116]:List UInt8)==([110,97,116]:List UInt8))=false from by decide ,show (([104,111,115,116]:List UInt8)==([100,111,111,114]:List UInt8))=false from by decide,cond_true,cond_false]
  rw [take_one w (by omega),join1]
 ·have h0:=hf.1
  have hn:keyN (w.getD 0 default).data.toList=2:=by rw [h0]; decide
  have hl:2≤w.length:=by unfold userP at hf; omega
  rw [hn,show ((2:Int).toNat)=2 from rfl]
  simp only [h0,show (([117,115,101,114]:List UInt8)==([104,111,115,116]:List UInt8))=false from by decide ,show (([117,115,101,114]:List UInt8)==([117,115,101,114]:List UInt8))=true from by decide ,show (([117,115,101,114]:List UInt8)==([112,111,114,116]:List UInt8))=false from by decide ,show (([117,115,101,114]:List UInt8)==([114,117,108,101]:List UInt8))=false from by decide ,show (([117,115,101,114]:List UInt8)==([114,111,117,116,101]:List UInt8))=false from by decide ,show (([117,115,101,114]:List UInt8)==([112,101,101,114]:List UInt8))=false from by decide ,show (([117,115,101,114]:List UInt8)==([110,97,116]:List UInt8))=false from by decide ,show (([117,115,101,114]:List UInt8)==([100,111,111,114]:List UInt8))=false from by decide,cond_true,cond_false]
  rw [take_two w (by omega),join2]
 ·have h0:=hf.1
  have hn:keyN (w.getD 0 default).data.toList=2:=by rw [h0]; decide
  have hl:2≤w.length:=by unfold portP at hf; omega
  rw [hn,show ((2:Int).toNat)=2 from rfl]
  simp only [h0,show (([112,111,114,116]:List UInt8)==([104,111,115,116]:List UInt8))=false from by decide ,show (([112,111,114,116]:List UInt8)==([117,115,101,114]:List UInt8))=false from by decide ,show (([112,111,114,116]:List UInt8)==([112,111,114,116]:List UInt8))=true from by decide ,show (([112,111,114,116]:List UInt8)==([114,117,108,101]:List UInt8))=false from by decide ,show (([112,111,114,116]:List UInt8)==([114,111,117,116,101]:List UInt8))=false from by decide ,show (([112,111,114,116]:List UInt8)==([112,101,101,114]:List UInt8))=false from by decide ,show (([112,111,114,116]:List UInt8)==([110,97,116]:List UInt8))=false from by decide ,show (([112,111,114,116]:List UInt8)==([100,111,111,114]:List UInt8))=false from by decide,cond_true,cond_false]
  rw [take_two w (by omega),join2]
 ·have h0:=hf.1
  have hn:keyN (w.getD 0 default).data.toList=3:=by rw [h0]; decide
  have hl:3≤w.length:=by unfold ruleP at hf; omega
  rw [hn,show ((3:Int).toNat)=3 from rfl]
  simp only [h0,show (([114,117,108,101]:List UInt8)==([104,111,115,116]:List UInt8))=false from by decide ,show (([114,117,108,101]:List UInt8)==([117,115,101,114]:List UInt8))=false from by decide ,show (([114,117,108,101]:List UInt8)==([112,111,114,116]:List UInt8))=false from by decide ,show (([114,117,108,101]:List UInt8)==([114,117,108,101]:List UInt8))=true from by decide ,show (([114,117,108,101]:List UInt8)==([114,111,117,116,101]:List UInt8))=false from by decide ,show (([114,117,108,101]:List UInt8)==([112,101,101,114]:List UInt8))=false from by decide ,show (([114,117,108,101]:List UInt8)==([110,97,116]:List UInt8))=false from by decide ,show (([114,117,108,101]:List UInt8)==([100,111,111,114]:List UInt8))=false from by decide,cond_true,cond_false]
  rw [take_three w (by omega),join3]
 ·have h0:=hf.1
  have hn:keyN (w.getD 0 default).data.toList=3:=by rw [h0]; decide
  have hl:3≤w.length:=by unfold routeP at hf; omega
  rw [hn,show ((3:Int).toNat)=3 from rfl]
  simp only [h0,show (([114,111,117,116,101]:List UInt8)==([104,111,115,116]:List UInt8))=false from by decide ,show (([114,111,117,116,101]:List UInt8)==([117,115,101,114]:List UInt8))=false from by decide ,show (([114,111,117,116,101]:List UInt8)==([112,111,114,116]:List UInt8))=false from by decide ,show (([114,111,117,116,101]:List UInt8)==([114,117,108,101]:List UInt8))=false from by decide ,show (([114,111,117,116,101]:List UInt8)==([114,111,117,116,101]:List UInt8))=true from by decide ,show (([114,111,117,116,101]:List UInt8)==([112,101,101,114]:List UInt8))=false from by decide ,show (([114,111,117,116,101]:List UInt8)==([110,97,116]:List UInt8))=false from by decide ,show (([114,111,117,116,101]:List UInt8)==([100,111,111,114]:List UInt8))=false from by decide,cond_true,cond_false]
  rw [List.take_of_length_le (by unfold routeP at hf; omega)]
  exact hj.symm
 ·have h0:=hf.1
  have hn:keyN (w.getD 0 default).data.toList=2:=by rw [h0]; decide
  have hl:2≤w.length:=by unfold peerP at hf; omega
  rw [hn,show ((2:Int).toNat)=2 from rfl]
  simp only [h0,show (([112,101,101,114]:List UInt8)==([104,111,115,116]:List UInt8))=false from by decide ,show (([112,101,101,114]:List UInt8)==([117,115,101,114]:List UInt8))=false from by decide ,show (([112,101,101,114]:List UInt8)==([112,111,114,116]:List UInt8))=false from by decide ,show (([112,101,101,114]:List UInt8)==([114,117,108,101]:List UInt8))=false from by decide ,show (([112,101,101,114]:List UInt8)==([114,111,117,116,101]:List UInt8))=false from by decide ,show (([112,101,101,114]:List UInt8)==([112,101,101,114]:List UInt8))=true from by decide ,show (([112,101,101,114]:List UInt8)==([110,97,116]:List UInt8))=false from by decide ,show (([112,101,101,114]:List UInt8)==([100,111,111,114]:List UInt8))=false from by decide,cond_true,cond_false]
  rw [take_two w (by omega),join2]
 ·have h0:=hf.1
  have hn:keyN (w.getD 0 default).data.toList=1:=by rw [h0]; decide
  have hl:2≤w.length:=by unfold natP at hf; omega
  rw [hn,show ((1:Int).toNat)=1 from rfl]
  simp only [h0,show (([110,97,116]:List UInt8)==([104,111,115,116]:List UInt8))=false from by decide ,show (([110,97,116]:List UInt8)==([117,115,101,114]:List UInt8))=false from by decide ,show (([110,97,116]:List UInt8)==([112,111,114,116]:List UInt8))=false from by decide ,show (([110,97,116]:List UInt8)==([114,117,108,101]:List UInt8))=false from by decide ,show (([110,97,116]:List UInt8)==([114,111,117,116,101]:List UInt8))=false from by decide ,show (([110,97,116]:List UInt8)==([112,101,101,114]:List UInt8))=false from by decide ,show (([110,97,116]:List UInt8)==([110,97,116]:List UInt8))=true from by decide ,show (([110,97,116]:List UInt8)==([100,111,111,114]:List UInt8))=false from by decide,cond_true,cond_false]
  rw [take_one w (by omega),join1]
 ·have h0:=hf.1
  have hn:keyN (w.getD 0 default).data.toList=3:=by rw [h0]; decide
  have hl:3≤w.length:=by unfold doorP at hf; omega
  rw [hn,show ((3:Int).toNat)=3 from rfl]
  simp only [h0,show (([100,111,111,114]:List UInt8)==([104,111,115,116]:List UInt8))=false from by decide ,show (([100,111,111,114]:List UInt8)==([117,115,101,114]:List UInt8))=false from by decide ,show (([100,111,111,114]:List UInt8)==([112,111,114,116]:List UInt8))=false from by decide ,show (([100,111,111,114]:List UInt8)==([114,117,108,101]:List UInt8))=false from by decide ,show (([100,111,111,114]:List UInt8)==([114,111,117,116,101]:List UInt8))=false from by decide ,show (([100,111,111,114]:List UInt8)==([112,101,101,114]:List UInt8))=false from by decide ,show (([100,111,111,114]:List UInt8)==([110,97,116]:List UInt8))=false from by decide ,show (([100,111,111,114]:List UInt8)==([100,111,111,114]:List UInt8))=true from by decide,cond_true,cond_false]
  rw [take_three w (by omega),join3]
theorem key_same (line:ByteArray):F13 line=F14 line:=by
 cases h:F47 line with
 | false =>
  unfold F13 F14
  rw [keptSo_eq,h]; rfl
 | true =>
  rw [key_eq line h]
  obtain ⟨k1,k2⟩:=kept_form line h
  unfold F13
  rw [keptSo_eq,h,k1,k2]; rfl
theorem fold_loop {α σ ρ τ ω:Type} [Inhabited α] (xs:List α) (upd:σ→α→σ) (emb:σ→Int→ω) (step:ω→Lp ω ρ)
  (h1:∀ (i:Nat) (s:σ),i<xs.length→step (emb s (i:Int))=.next (emb (upd s (xs.getD i default)) ((i+1:Nat):Int))) (h2:∀ s:σ,step (emb s (xs.length:Int))=.done (emb s (xs.length:Int)))
  (f:ρ→τ) (g:ω→τ):∀ (m i:Nat) (s:σ),i+m=xs.length→∀ fuel,m<fuel→(runL step fuel (emb s (i:Int))).fin f g=g (emb ((xs.drop i).foldl upd s) (xs.length:Int))
 | m,i,_,_,0,hf=>absurd hf (Nat.not_lt_zero _)
 | 0,i,s,h,fuel+1,hf=>by
  obtain rfl:i=xs.length:=by omega
  rw [runL_d _ (h2 s),List.drop_of_length_le (Nat.le_refl _)]; rfl
 | m+1,i,s,h,fuel+1,hf=>by
  have hd:xs.drop i=xs.getD i default :: xs.drop (i+1):=by
   rw [List.drop_eq_getElem_cons (show i<xs.length by omega),List.getD_eq_getElem?_getD,List.getElem?_eq_getElem (show i<xs.length by omega)]; rfl
  rw [runL_n _ (h1 i s (by omega)),fold_loop xs upd emb step h1 h2 f g m (i+1) _ (by omega) fuel (by omega),hd,List.foldl_cons]
theorem fold_loop0 {α σ ρ τ ω:Type} [Inhabited α] (xs:List α) (upd:σ→α→σ) (emb:σ→Int→ω) (step:ω→Lp ω ρ)
  (h1:∀ (i:Nat) (s:σ),i<xs.length→step (emb s (i:Int))=.next (emb (upd s (xs.getD i default)) ((i+1:Nat):Int))) (h2:∀ s:σ,step (emb s (xs.length:Int))=.done (emb s (xs.length:Int)))
  (f:ρ→τ) (g:ω→τ) (s:σ):(runL step (((xs.length:Int)-0).toNat+1) (emb s 0)).fin f g=g (emb (xs.foldl upd s) (xs.length:Int)):=by
 have:=fold_loop xs upd emb step h1 h2 f g xs.length 0 s (by omega) (Int.toNat ((xs.length:Int)-0)+1) (by omega)
 rw [List.drop_zero] at this
 exact this
theorem anyF_dropG {α:Type} [Inhabited α] (ws:List α) (p:α→Bool):∀ (m i:Nat),i+m=ws.length→anyF (fun k=>p (ws.getD k default)) i m=(ws.drop i).any p
 | 0,i,h=>by rw [List.drop_of_length_le (by omega)]; rfl
 | m+1,i,h=>by
  have hd:ws.drop i=ws.getD i default :: ws.drop (i+1):=by
   rw [List.drop_eq_getElem_cons (show i<ws.length by omega),List.getD_eq_getElem?_getD,List.getElem?_eq_getElem (show i<ws.length by omega)]; rfl
  rw [hd,List.any_cons,anyF,anyF_dropG ws p m (i+1) (by omega)]
theorem anyL {α ρ τ:Type} [Inhabited α] (xs:List α) (p:α→Bool) (bad:ρ) (step:Int→Lp Int ρ)
  (h1:∀ i:Nat,i<xs.length→step (i:Int)=bif p (xs.getD i default) then .ret bad else .next ((i+1:Nat):Int)) (h2:step (xs.length:Int)=.done (xs.length:Int))
  (f:ρ→τ) (g:Int→τ) (y:τ) (hg:∀ i,g i=y):(runL step (((xs.length:Int)-0).toNat+1) 0).fin f g=bif xs.any p then f bad else y:=by
 have h:=any_loop step xs.length (fun k=>p (xs.getD k default)) bad f y h1 h2 xs.length 0 (by omega) (Int.toNat ((xs.length:Int)-0)+1) (by omega)
 rw [anyF_dropG xs p xs.length 0 (by omega),List.drop_zero] at h
 rw [show g=fun _=>y from funext hg]
 exact h
theorem foldl_filter {α β:Type} (p:α→Bool) (f:α→β):∀ (xs:List α) (s:List β),xs.foldl (fun s x=>bif p x then s++[f x] else s) s=s++(xs.filter p).map f
 | [],s=>by simp
 | x :: xs,s=>by
  rw [List.foldl_cons,foldl_filter p f xs]
  cases h:p x with
  | true=>rw [cond_true,List.filter_cons_of_pos h,List.map_cons,List.append_assoc]; rfl
  | false=>rw [cond_false,List.filter_cons_of_neg (by simp [h])]
theorem foldl_map' {α β:Type} (f:α→β):∀ (xs:List α) (s:List β),xs.foldl (fun s x=>s++[f x]) s=s++xs.map f
 | [],s=>by simp
 | x :: xs,s=>by
  rw [List.foldl_cons,foldl_map' f xs,List.map_cons,List.append_assoc]; rfl
theorem kc14 (line:ByteArray) {K_:Prop} (p0_:line.size≤1048576) (k_:K_):(line.size≤1048576)∧(Imp (.v (.string line)) (.v (.string line)))∧K_:=⟨p0_,Imp.refl _,k_⟩
abbrev kh14 (line:ByteArray):Hint true Tryz.prog:=.call 14 (S14 line) (ok14 line) none
def F116_s0 (lines:List ByteArray):(List ByteArray×Int)→Lp (List ByteArray×Int) (List ByteArray):=fun (out,i40) =>
 bif (decide (i40<(lines.length:Int))) then (.next ((out++[(F14 (lines.getD i40.toNat default))]),(i40+1))) else (.done (out,i40))
def F116 (lines:List ByteArray):List ByteArray :=
 (runL (F116_s0 lines) (((lines.length:Int)-0).toNat+1) (([]:List ByteArray),0)).fin (fun r=>r) (fun (out,i40)=>out)
abbrev lN116_0 (lines:List ByteArray):Nat×(List ByteArray×Int):=((((lines.length:Int)-0).toNat+1),(([]:List ByteArray),0))
abbrev lI116_0 (lines:List ByteArray) (m39:Nat) (out:List ByteArray) (i40:Int):Prop:=Int.toNat ((lines.length:Int)-i40)<m39∧(out.length:Int)≤i40∧(0:Int)≤i40
abbrev lX116_0 (lines:List ByteArray):Lp (List ByteArray×Int) (List ByteArray):=LpX (F116_s0 lines) (lN116_0 lines)
abbrev lJ116_0 (lines:List ByteArray) (i:Nat×(List ByteArray×Int)):Prop:=LpJ (F116_s0 lines) (lN116_0 lines) i (lI116_0 lines i.1 i.2.1 i.2.2)
abbrev lH116_0 (lines:List ByteArray) (i:Nat×(List ByteArray×Int)) (m39:Nat) (out:List ByteArray) (i40:Int):Prop:=LpH (F116_s0 lines) (lN116_0 lines) i m39 (out,i40) (lI116_0 lines (m39+1) out i40)
abbrev lE116_0 (lines:List ByteArray) (out:List ByteArray) (i40:Int) (out_:List ByteArray) (i40_:Int) (K39:Prop):Prop:=((.int .i64 i40:Value)=.int .i64 i40_)∧(Im (.l 1 eStr lines))∧(Imp (.l 1 eStr out) (.l 1 eStr out_))∧K39
theorem un116_0 (lines:List ByteArray) (i:Nat×(List ByteArray×Int)) (h:lJ116_0 lines i):lH116_0 lines i (i.1-1) i.2.1 i.2.2:=⟨hd1 h.1 h.2.1,hd3 h.2.1,hd2 h.2.1,h.2.2⟩
theorem bk116_0 (lines:List ByteArray) (i:Nat×(List ByteArray×Int)) (m39:Nat) (out:List ByteArray) (i40:Int) (hl:m39<i.1) (e:runL (F116_s0 lines) m39 (out,i40)=lX116_0 lines) (h:lI116_0 lines m39 out i40):∃ j:Nat×(List ByteArray×Int),lE116_0 lines out i40 j.2.1 j.2.2 (lJ116_0 lines j∧j.1<i.1):=⟨(m39,(out,i40)),rfl,Imp.refl _,Imp.refl _,⟨e,h⟩,hl⟩
theorem en116_0 (lines:List ByteArray) (h:(([]:List ByteArray).length:Int)≤0∧(0:Int)≤0):lE116_0 lines ([]:List ByteArray) 0 ([]:List ByteArray) 0 (lJ116_0 lines (lN116_0 lines)):=⟨rfl,Imp.refl _,Imp.refl _,rfl,Nat.lt_succ_self _,h⟩
theorem fi116 (lines:List ByteArray) (r:List ByteArray) (hF:r=(F116 lines)):(Imp (.l 1 eStr r) (.l 1 eStr (F116 lines)))∧True:=by cases hF; exact ⟨Imp.refl _,trivial⟩
def S116 (R:List ByteArray) (lines:List ByteArray):Spec:=⟨[.r (.c (.l 1 eStr lines))],.ow (.l 1 eStr R),lines.length≤1048576∧(∀ k:Nat,(lines.getD k default).size≤1048576)⟩
theorem ok116 (lines:List ByteArray):(S116 (F116 lines) lines).ok Tryz.prog 116 :=
 fnG_ok mixed (fn:=Tryz.f116) (ct:=.seqk [(0,0)] .no (.seq (.reg [(0,.dat (.l 1 eStr ([]:List ByteArray)))]) (.seq (.seqk [(0,0),(3,0)] .no (.blk (.loop (ι:=Nat×(List ByteArray×Int)) (fun i=>(fun (out:List ByteArray) (i40:Int)=>(⟨[(0,some (.h 0 0)),(3,some (.h 1 0)),(4,some (.v (vI i40)))],[(0,some (.shr none (.l 1 eStr lines))),(1,some (.own 1 (.l 1 eStr out)))],2⟩:St)) i.2.1 i.2.2) (lJ116_0 lines) (fun i=>i.1) (lN116_0 lines) (fun i=>(fun (out:List ByteArray) (i40:Int)=>(.seq (.seq .no (.cond .no .no)) (.seq (.blk (.reg [(5,kh14 (lines.getD i40.toNat default)),(7,.dat (.l 1 eStr (out++[(F14 (lines.getD i40.toNat default))])))])) (.reg [(1,.bnd)])))) i.2.1 i.2.2)))) (.seq .no .no)))) Tryz.func116 (fun (hp:lines.length≤1048576∧(∀ k:Nat,(lines.getD k default).size≤1048576))=>have hpre0:=hp.1; have hpre1:=hp.2; kn lines fun _=>ai (bokr 1 eStr ([]:List ByteArray) fun _=>rfl) (kn lines fun _=>kn ([]:List ByteArray) fun _=>ai (en116_0 lines (by refine ⟨?_,?_⟩ <;> first | omega | (simp only [lens,ib] at*<;> omega))) (fun (i0:Nat×(List ByteArray×Int)) (hi0:lJ116_0 lines i0)=>(fun (m0:Nat) (out:List ByteArray) (i40:Int) (hh0:lH116_0 lines i0 m0 out i40)=>have hI0:=hh0.1; have hl0:=hh0.2.1; have _:=hh0.2.2.1; have _:=hh0.2.2.2; ifd (i40<(lines.length:Int)) (fun h2 _=>ai (by first | omega | (simp only [lens,ib] at*<;> omega):ib i40 lines) (kc14 (lines.getD i40.toNat default) (by first | omega | exact hpre1 _ | (intros; exact trivial) | (intros; exact Nat.zero_le _)) (ai (appr 1 eStr out [(F14 (lines.getD i40.toNat default))] fun _=>rfl) (ai (by (try simp only [lens]); omega:(out++[(F14 (lines.getD i40.toNat default))]).length*16≤140737488355328) (ai (iok (i40+1) (by first | omega | (simp only [lens,ib] at*<;> omega))) (bk116_0 lines i0 m0 (out++[(F14 (lines.getD i40.toNat default))]) (i40+1) hl0 (runL_next hI0 (condT h2 rfl)) (by refine ⟨?_,?_,?_⟩ <;> first | omega | (simp only [lens,ib] at*<;> omega)))))))) (fun h2 _=>have hD0_3:lX116_0 lines=Lp.done (out,i40):=runL_done hI0 (condF h2 rfl); fi116 lines out (finD hD0_3 rfl))) (i0.1-1) i0.2.1 i0.2.2 (un116_0 lines i0 hi0)))) (by kernel_rfl)
def F103_s0 (lines:List ByteArray) (word:ByteArray):(List (List ByteArray)×Int)→Lp (List (List ByteArray)×Int) (List (List ByteArray)):=fun (out,v12) =>
 bif (decide (v12<(lines.length:Int))) then (bif (((F41 (lines.getD v12.toNat default) ⟨#[32]⟩).getD (Int.toNat 0) default).toList==word.toList) then (.next ((out++[(F41 (lines.getD v12.toNat default) ⟨#[32]⟩)]),(v12+1))) else (.next (out,(v12+1)))) else (.done (out,v12))
def F103 (lines:List ByteArray) (word:ByteArray):List (List ByteArray) :=
 (runL (F103_s0 lines word) (((lines.length:Int)-0).toNat+1) (([]:List (List ByteArray)),0)).fin (fun r=>r) (fun (out,v12)=>out)
abbrev lN103_0 (lines:List ByteArray):Nat×(List (List ByteArray)×Int):=((((lines.length:Int)-0).toNat+1),(([]:List (List ByteArray)),0))
abbrev lI103_0 (lines:List ByteArray) (m39:Nat) (out:List (List ByteArray)) (v12:Int):Prop:=Int.toNat ((lines.length:Int)-v12)<m39∧(out.length:Int)≤v12∧(0:Int)≤v12
abbrev lX103_0 (lines:List ByteArray) (word:ByteArray):Lp (List (List ByteArray)×Int) (List (List ByteArray)):=LpX (F103_s0 lines word) (lN103_0 lines)
abbrev lJ103_0 (lines:List ByteArray) (word:ByteArray) (i:Nat×(List (List ByteArray)×Int)):Prop:=LpJ (F103_s0 lines word) (lN103_0 lines) i (lI103_0 lines i.1 i.2.1 i.2.2)
abbrev lH103_0 (lines:List ByteArray) (word:ByteArray) (i:Nat×(List (List ByteArray)×Int)) (m39:Nat) (out:List (List ByteArray)) (v12:Int):Prop:=LpH (F103_s0 lines word) (lN103_0 lines) i m39 (out,v12) (lI103_0 lines (m39+1) out v12)
abbrev lE103_0 (lines:List ByteArray) (word:ByteArray) (out:List (List ByteArray)) (v12:Int) (out_:List (List ByteArray)) (v12_:Int) (K39:Prop):Prop:=(Rf (.string word))∧(Rf (.int .i64 (lines.length:Int)))∧((.int .i64 v12:Value)=.int .i64 v12_)∧(Imp (.l 1 (eL 1 eStr) out) (.l 1 (eL 1 eStr) out_))∧(Im (.l 1 eStr lines))∧K39
theorem un103_0 (lines:List ByteArray) (word:ByteArray) (i:Nat×(List (List ByteArray)×Int)) (h:lJ103_0 lines word i):lH103_0 lines word i (i.1-1) i.2.1 i.2.2:=⟨hd1 h.1 h.2.1,hd3 h.2.1,hd2 h.2.1,h.2.2⟩
theorem bk103_0 (lines:List ByteArray) (word:ByteArray) (i:Nat×(List (List ByteArray)×Int)) (m39:Nat) (out:List (List ByteArray)) (v12:Int) (hl:m39<i.1) (e:runL (F103_s0 lines word) m39 (out,v12)=lX103_0 lines word) (h:lI103_0 lines m39 out v12):∃ j:Nat×(List (List ByteArray)×Int),lE103_0 lines word out v12 j.2.1 j.2.2 (lJ103_0 lines word j∧j.1<i.1):=⟨(m39,(out,v12)),rfl,rfl,rfl,Imp.refl _,Imp.refl _,⟨e,h⟩,hl⟩
theorem en103_0 (lines:List ByteArray) (word:ByteArray) (h:(([]:List (List ByteArray)).length:Int)≤0∧(0:Int)≤0):lE103_0 lines word ([]:List (List ByteArray)) 0 ([]:List (List ByteArray)) 0 (lJ103_0 lines word (lN103_0 lines)):=⟨rfl,rfl,rfl,Imp.refl _,Imp.refl _,rfl,Nat.lt_succ_self _,h⟩
theorem fi103 (lines:List ByteArray) (word:ByteArray) (r:List (List ByteArray)) (hF:r=(F103 lines word)):(Imp (.l 1 (eL 1 eStr) r) (.l 1 (eL 1 eStr) (F103 lines word)))∧True:=by cases hF; exact ⟨Imp.refl _,trivial⟩
def S103 (R:List (List ByteArray)) (lines:List ByteArray) (word:ByteArray):Spec:=⟨[.r (.c (.l 1 eStr lines)),.r (.c (.v (.string word)))],.ow (.l 1 (eL 1 eStr) R),lines.length≤1048576∧(∀ k:Nat,(lines.getD k default).size≤1048576)⟩
theorem ok103 (lines:List ByteArray) (word:ByteArray):(S103 (F103 lines word) lines word).ok Tryz.prog 103 :=
 fnG_ok mixed (fn:=Tryz.f103) (ct:=.seqk [(0,0)] .no (.seq (.reg [(0,.dat (.l 1 (eL 1 eStr) ([]:List (List ByteArray))))]) (.seq (.seqk [(5,0),(10,0)] .no (.blk (.loop (ι:=Nat×(List (List ByteArray)×Int)) (fun i=>(fun (out:List (List ByteArray)) (v12:Int)=>(⟨[(1,some (.v (.string word))),(5,some (.h 0 0)),(10,some (.h 1 0)),(11,some (.v (vI (lines.length:Int)))),(12,some (.v (vI v12)))],[(0,some (.own 0 (.l 1 (eL 1 eStr) out))),(1,some (.shr none (.l 1 eStr lines)))],2⟩:St)) i.2.1 i.2.2) (lJ103_0 lines word) (fun i=>i.1) (lN103_0 lines) (fun i=>(fun (out:List (List ByteArray)) (v12:Int)=>(.seq .no (.seq (.cond .no .no) (.seq (.blk (.seq .no (.seq (.reg [(1,kh41 (lines.getD v12.toNat default) w15_)]) (.seq .no (.cond (.reg [(3,.dat (.l 1 (eL 1 eStr) (out++[(F41 (lines.getD v12.toNat default) w15_)])))]) .no))))) (.reg [(0,.bnd)]))))) i.2.1 i.2.2)))) (.seq .no .no)))) Tryz.func103 (fun (hp:lines.length≤1048576∧(∀ k:Nat,(lines.getD k default).size≤1048576))=>have hpre0:=hp.1; have hpre1:=hp.2; kn lines fun _=>ai (bokr 1 (eL 1 eStr) ([]:List (List ByteArray)) fun _=>rfl) (kn ([]:List (List ByteArray)) fun _=>kn lines fun _=>ai (en103_0 lines word (by refine ⟨?_,?_⟩ <;> first | omega | (simp only [lens,ib] at*<;> omega))) (fun (i0:Nat×(List (List ByteArray)×Int)) (hi0:lJ103_0 lines word i0)=>(fun (m0:Nat) (out:List (List ByteArray)) (v12:Int) (hh0:lH103_0 lines word i0 m0 out v12)=>have hI0:=hh0.1; have hl0:=hh0.2.1; have _:=hh0.2.2.1; have _:=hh0.2.2.2; ifd (v12<(lines.length:Int)) (fun h2 _=>ai (by first | omega | (simp only [lens,ib] at*<;> omega):ib v12 lines) (kc41 (lines.getD v12.toNat default) w15_ (by first | decide | (have hz:=hpre1 v12.toNat; omega)) (by first | decide | (have hz:=hpre1 v12.toNat; omega)) (by first | decide | (have hz:=hpre1 v12.toNat; omega)) (by first | decide | (have hz:=hpre1 v12.toNat; omega)) (fun gv3 gv4=>ai (by first | omega | (simp only [lens,ib] at*<;> omega):ib 0 (F41 (lines.getD v12.toNat default) w15_)) (ifb (((F41 (lines.getD v12.toNat default) w15_).getD (Int.toNat 0) default).toList==word.toList) (fun h5=>ai (appr 1 (eL 1 eStr) out [(F41 (lines.getD v12.toNat default) w15_)] fun _=>rfl) (ai (by (try simp only [lens]); omega:(out++[(F41 (lines.getD v12.toNat default) w15_)]).length*24≤140737488355328) (ai (iok (v12+1) (by first | omega | (simp only [lens,ib] at*<;> omega))) (bk103_0 lines word i0 m0 (out++[(F41 (lines.getD v12.toNat default) w15_)]) (v12+1) hl0 (runL_next hI0 (condT h2 (condT h5 rfl))) (by refine ⟨?_,?_,?_⟩ <;> first | omega | (simp only [lens,ib] at*<;> omega)))))) (fun h5=>ai (iok (v12+1) (by first | omega | (simp only [lens,ib] at*<;> omega))) (bk103_0 lines word i0 m0 out (v12+1) hl0 (runL_next hI0 (condT h2 (condF h5 rfl))) (by refine ⟨?_,?_,?_⟩ <;> first | omega | (simp only [lens,ib] at*<;> omega)))))))) (fun h2 _=>have hD0_6:lX103_0 lines word=Lp.done (out,v12):=runL_done hI0 (condF h2 rfl); fi103 lines word out (finD hD0_6 rfl))) (i0.1-1) i0.2.1 i0.2.2 (un103_0 lines word i0 hi0)))) (by kernel_rfl)
theorem as116 (lines:List ByteArray):F116 lines=(lines.map F14):=by
 unfold F116
 have:=fold_loop0 lines (fun (s:List ByteArray) x=>s++[F14 x]) (fun s i=>(s,i)) (F116_s0 lines) (fun i s hi=>by
  simp only [F116_s0,ltD hi,cond_true,nn]; rfl) (fun s=>by simp only [F116_s0,geD,cond_false]) (fun r=>r) (fun (out,i40)=>out) []
 refine this.trans ?_
 rw [foldl_map',List.nil_append]
def linesL (lines:List ByteArray) (word:ByteArray):List (List ByteArray):=(lines.map fun l=>splitS l (⟨#[32]⟩:ByteArray)).filter fun w=>(w.getD 0 default).data.toList==word.data.toList
theorem as103 (lines:List ByteArray) (word:ByteArray):F103 lines word=(linesL lines word):=by
 unfold F103
 have:=fold_loop0 lines (fun (s:List (List ByteArray)) x=>bif ((splitS x (⟨#[32]⟩:ByteArray)).getD 0 default).data.toList==word.data.toList then s++[splitS x (⟨#[32]⟩:ByteArray)] else s) (fun s i=>(s,i)) (F103_s0 lines word) (fun i s hi=>by
  simp only [F103_s0,ltD hi,cond_true,nn,byteToList,F41]
  show (bif ((splitS (lines.getD i default) (⟨#[32]⟩:ByteArray)).getD 0 default).data.toList==word.data.toList then _ else _)=_
  cases (((splitS (lines.getD i default) (⟨#[32]⟩:ByteArray)).getD 0 default).data.toList==word.data.toList) <;> rfl) (fun s=>by simp only [F103_s0,geD,cond_false]) (fun r=>r) (fun (out,v12)=>out) []
 refine this.trans ?_
 have h:=foldl_filter (fun x=>((splitS x (⟨#[32]⟩:ByteArray)).getD 0 default).data.toList==word.data.toList) (fun x=>splitS x (⟨#[32]⟩:ByteArray)) lines []
 rw [List.nil_append] at h
 refine h.trans ?_
 unfold linesL
 rw [List.filter_map]
 rfl
def T116 (R:List ByteArray) (lines:List ByteArray):Spec:=⟨(S116 R lines).args,(S116 R lines).res,lines.length≤1048576∧(∀ k:Nat,(lines.getD k default).size≤1048576)⟩
theorem oa116 (lines:List ByteArray):(T116 (lines.map F14) lines).ok Tryz.prog 116:=by
 intro hp; have h:=ok116 lines hp; rw [as116 lines] at h; exact h
def T103 (R:List (List ByteArray)) (lines:List ByteArray) (word:ByteArray):Spec:=⟨(S103 R lines word).args,(S103 R lines word).res,lines.length≤1048576∧(∀ k:Nat,(lines.getD k default).size≤1048576)⟩
theorem oa103 (lines:List ByteArray) (word:ByteArray):(T103 (linesL lines word) lines word).ok Tryz.prog 103:=by
 intro hp; have h:=ok103 lines word hp; rw [as103 lines word] at h; exact h
def F101 (l:ByteArray):Bool :=
 (!(F46 l))
def S101 (l:ByteArray):Spec:=⟨[.r (.c (.v (.string l)))],.v (.bool (F101 l)),l.size≤1048576⟩
theorem ok101 (l:ByteArray):(S101 l).ok Tryz.prog 101 false :=
 fnG_ok mixed (fn:=Tryz.f101) (ct:=.seq .no (.seq (.reg [(1,kh46 l)]) .no)) Tryz.func101 (fun (hpre0:l.size≤1048576)=>kc46 l (by omega) (fiB (!(F46 l)) (F101 l) rfl)) (by kernel_rfl)
theorem kc13 (line:ByteArray) {K_:Prop} (p0_:line.size≤1048576) (k_:K_):(line.size≤1048576)∧(Imp (.v (.string line)) (.v (.string line)))∧K_:=⟨p0_,Imp.refl _,k_⟩
abbrev kh13 (line:ByteArray):Hint false Tryz.prog:=.call 13 (S13 line) (ok13 line) none
def F52_s1 (lines:List ByteArray):(Int×ML Bool)→Lp (Int×ML Bool) Int:=fun (v31,ms) =>
 bif (decide (v31<(lines.length:Int))) then (.next ((v31+1),(putM ms (F13 (lines.getD v31.toNat default)) true))) else (.done (v31,ms))
def F52_j0 (lines:List ByteArray):Lp (ML Bool) Int :=
 (runL (F52_s1 lines) (((lines.length:Int)-0).toNat+1) (0,([]:ML Bool))).fin Lp.ret (fun (v31,ms)=>.done ms)
def F52_s0 (lines:List ByteArray):Int→Lp Int Int:=fun i40 =>
 bif (decide (i40<(lines.length:Int))) then (bif (!(Op.bytesLess (lines.getD (i40-1).toNat default).toList (lines.getD i40.toNat default).toList)) then (.ret 3) else (.next (i40+1))) else (.done i40)
def F52 (lines:List ByteArray):Int :=
 bif (decide ((lines.length:Int)>16)) then 1 else (bif (lines.any (fun (x0:ByteArray)=>F101 x0)) then 2 else ((runL (F52_s0 lines) (((lines.length:Int)-1).toNat+1) 1).fin (fun r=>r) (fun i40=>(F52_j0 lines).fin (fun r=>r) (fun keys=>bif (decide ((keys.length:Int)<(lines.length:Int))) then 4 else 0))))
abbrev lN52_1 (lines:List ByteArray):Nat×(Int×ML Bool):=((((lines.length:Int)-0).toNat+1),(0,([]:ML Bool)))
abbrev lI52_1 (lines:List ByteArray) (m39:Nat) (v31:Int) (ms:ML Bool):Prop:=Int.toNat ((lines.length:Int)-v31)<m39∧(0:Int)≤v31
abbrev lX52_1 (lines:List ByteArray):Lp (Int×ML Bool) Int:=LpX (F52_s1 lines) (lN52_1 lines)
abbrev lJ52_1 (lines:List ByteArray) (i:Nat×(Int×ML Bool)):Prop:=LpJ (F52_s1 lines) (lN52_1 lines) i (lI52_1 lines i.1 i.2.1 i.2.2)
abbrev lH52_1 (lines:List ByteArray) (i:Nat×(Int×ML Bool)) (m39:Nat) (v31:Int) (ms:ML Bool):Prop:=LpH (F52_s1 lines) (lN52_1 lines) i m39 (v31,ms) (lI52_1 lines (m39+1) v31 ms)
abbrev lE52_1 (lines:List ByteArray) (v31:Int) (ms:ML Bool) (v31_:Int) (ms_:ML Bool) (K39:Prop):Prop:=(Rf (.int .i64 (lines.length:Int)))∧((.int .i64 v31:Value)=.int .i64 v31_)∧(Im (.l 1 eStr lines))∧(Imp (.x (MX Value.bool ms)) (.x (MX Value.bool ms_)))∧K39
theorem un52_1 (lines:List ByteArray) (i:Nat×(Int×ML Bool)) (h:lJ52_1 lines i):lH52_1 lines i (i.1-1) i.2.1 i.2.2:=⟨hd1 h.1 h.2.1,hd3 h.2.1,hd2 h.2.1,h.2.2⟩
theorem bk52_1 (lines:List ByteArray) (i:Nat×(Int×ML Bool)) (m39:Nat) (v31:Int) (ms:ML Bool) (hl:m39<i.1) (e:runL (F52_s1 lines) m39 (v31,ms)=lX52_1 lines) (h:lI52_1 lines m39 v31 ms):∃ j:Nat×(Int×ML Bool),lE52_1 lines v31 ms j.2.1 j.2.2 (lJ52_1 lines j∧j.1<i.1):=⟨(m39,(v31,ms)),rfl,rfl,Imp.refl _,Imp.refl _,⟨e,h⟩,hl⟩
theorem en52_1 (lines:List ByteArray) (h:(0:Int)≤0):lE52_1 lines 0 ([]:ML Bool) 0 ([]:ML Bool) (lJ52_1 lines (lN52_1 lines)):=⟨rfl,rfl,Imp.refl _,Imp.refl _,rfl,Nat.lt_succ_self _,h⟩
abbrev jJ52_0 (lines:List ByteArray) (j:ML Bool):Prop:=(F52_j0 lines)=Lp.done j
theorem jn52_0 (lines:List ByteArray) (keys:ML Bool) (e:(F52_j0 lines)=Lp.done keys):∃ j:ML Bool,(Imp (.l 1 eStr lines) (.l 1 eStr lines))∧(Imp (.x (MX Value.bool keys)) (.x (MX Value.bool j)))∧jJ52_0 lines j:=⟨keys,Imp.refl _,Imp.refl _,e⟩
abbrev lN52_0 (lines:List ByteArray):Nat×Int:=((((lines.length:Int)-1).toNat+1),1)
abbrev lI52_0 (lines:List ByteArray) (m39:Nat) (i40:Int):Prop:=Int.toNat ((lines.length:Int)-i40)<m39∧(1:Int)≤i40∧(0:Int)≤i40
abbrev lX52_0 (lines:List ByteArray):Lp Int Int:=LpX (F52_s0 lines) (lN52_0 lines)
abbrev lJ52_0 (lines:List ByteArray) (i:Nat×Int):Prop:=LpJ (F52_s0 lines) (lN52_0 lines) i (lI52_0 lines i.1 i.2)
abbrev lH52_0 (lines:List ByteArray) (i:Nat×Int) (m39:Nat) (i40:Int):Prop:=LpH (F52_s0 lines) (lN52_0 lines) i m39 i40 (lI52_0 lines (m39+1) i40)
abbrev lE52_0 (lines:List ByteArray) (i40:Int) (i40_:Int) (K39:Prop):Prop:=((.int .i64 i40:Value)=.int .i64 i40_)∧(Im (.l 1 eStr lines))∧K39
theorem un52_0 (lines:List ByteArray) (i:Nat×Int) (h:lJ52_0 lines i):lH52_0 lines i (i.1-1) i.2:=⟨hd1 h.1 h.2.1,hd3 h.2.1,hd2 h.2.1,h.2.2⟩
theorem bk52_0 (lines:List ByteArray) (i:Nat×Int) (m39:Nat) (i40:Int) (hl:m39<i.1) (e:runL (F52_s0 lines) m39 i40=lX52_0 lines) (h:lI52_0 lines m39 i40):∃ j:Nat×Int,lE52_0 lines i40 j.2 (lJ52_0 lines j∧j.1<i.1):=⟨(m39,i40),rfl,Imp.refl _,⟨e,h⟩,hl⟩
theorem en52_0 (lines:List ByteArray) (h:(1:Int)≤1∧(0:Int)≤1):lE52_0 lines 1 1 (lJ52_0 lines (lN52_0 lines)):=⟨rfl,Imp.refl _,rfl,Nat.lt_succ_self _,h⟩
def S52 (lines:List ByteArray):Spec:=⟨[.r (.c (.l 1 eStr lines))],.v (vI (F52 lines)),(∀ k:Nat,(lines.getD k default).size≤1048576)⟩
theorem ok52 (lines:List ByteArray):(S52 lines).ok Tryz.prog 52 false :=
 fnG_ok mixed (fn:=Tryz.f52) (ct:=.seqk [(0,0)] .no (.seq (.seq .no (.cond (.seq .no .no) .no)) (.seq (.seq (.reg [(1,.call 43 (S43 (lines.any (fun (x0:ByteArray)=>F101 x0)) lines (fun (x0:ByteArray)=>F101 x0) (fun (x0:ByteArray)=>x0.size≤1048576)) (oa43 lines (fun (x0:ByteArray)=>F101 x0) (fun (x0:ByteArray)=>x0.size≤1048576)) (some ⟨false,101,fsQ64 (fun (x0:ByteArray)=>x0.size≤1048576) (fun (x0:ByteArray)=>F101 x0),[],rfl,True,fun i=>ok_px (ok101 i)⟩))]) (.cond (.seq .no .no) .no)) (.seq (.seqk [(0,0)] .no (.blk (.loop (ι:=Nat×Int) (fun i=>(fun (i40:Int)=>(⟨[(0,some (.h 0 0)),(3,some (.v (vI i40)))],[(0,some (.shr none (.l 1 eStr lines)))],1⟩:St)) i.2) (lJ52_0 lines) (fun i=>i.1) (lN52_0 lines) (fun i=>(fun (i40:Int)=>(.seq (.seq .no (.cond .no .no)) (.seq (.blk (.seq (.reg [(2,.bnd)]) (.cond (.seq .no .no) .no))) (.reg [(1,.bnd)])))) i.2)))) (.seq (.reg [(0,.mpm Value.bool)]) (.cut (ι:=ML Bool) (fun j=>(fun (keys:ML Bool)=>(⟨[(0,some (.h 0 0)),(4,some (.h 1 0))],[(0,some (.shr none (.l 1 eStr lines))),(1,some (.own 1 (.x (MX Value.bool keys))))],2⟩:St)) j) (jJ52_0 lines) (.seqk [(29,0)] .no (.blk (.loop (ι:=Nat×(Int×ML Bool)) (fun i=>(fun (v31:Int) (ms:ML Bool)=>(⟨[(0,some (.h 0 0)),(4,some (.h 1 0)),(29,some (.h 0 0)),(30,some (.v (vI (lines.length:Int)))),(31,some (.v (vI v31)))],[(0,some (.shr none (.l 1 eStr lines))),(1,some (.own 1 (.x (MX Value.bool ms))))],2⟩:St)) i.2.1 i.2.2) (lJ52_1 lines) (fun i=>i.1) (lN52_1 lines) (fun i=>(fun (v31:Int) (ms:ML Bool)=>(.seq .no (.seq (.cond .no .no) (.seq (.blk (.seq .no (.reg [(2,kh13 (lines.getD v31.toNat default)),(3,.mpu Value.bool ms true)]))) (.reg [(0,.bnd)]))))) i.2.1 i.2.2)))) (fun j=>(fun (keys:ML Bool)=>(.seq (.seq (.reg [(1,.mpn Value.bool keys)]) (.cond (.seq .no .no) .no)) (.seq .no .no))) j))))))) Tryz.func52 (fun (hpre0:∀ k:Nat,(lines.getD k default).size≤1048576)=>kn lines fun _=>ifd ((lines.length:Int)>16) (fun h1 _=>fiI 1 (F52 lines) (condT h1 rfl)) (fun h1 _=>ai (by first | assumption | exact hpre0 _ | exact fun k _=>hpre0 k | (intros; exact trivial) | (intros; exact Nat.zero_le _):∀ k:Nat,k<lines.length→(fun (x0:ByteArray)=>x0.size≤1048576) (lines.getD k default)) (ai (Imp.refl (.l 1 eStr lines)) (ai (Eq.refl (fsQ64 (fun (x0:ByteArray)=>x0.size≤1048576) (fun (x0:ByteArray)=>F101 x0))) (ai trivial (ifb (lines.any (fun (x0:ByteArray)=>F101 x0)) (fun h2=>fiI 2 (F52 lines) (condF h1 (condT h2 rfl))) (fun h2=>kn lines fun _=>ai (en52_0 lines (by refine ⟨?_,?_⟩ <;> omega)) (fun (i0:Nat×Int) (hi0:lJ52_0 lines i0)=>(fun (m0:Nat) (i40:Int) (hh0:lH52_0 lines i0 m0 i40)=>have hI0:=hh0.1; have hl0:=hh0.2.1; have _:=hh0.2.2.1; have _:=hh0.2.2.2; ifd (i40<(lines.length:Int)) (fun h4 _=>ai (iok (i40-1) (by omega)) (ai (by omega:ib (i40-1) lines) (ai (by omega:ib i40 lines) (ifb (!(Op.bytesLess (lines.getD (i40-1).toNat default).toList (lines.getD i40.toNat default).toList)) (fun h5=>fiI 3 (F52 lines) (condF h1 (condF h2 (finR (runL_ret hI0 (condT h4 (condT h5 rfl))) rfl)))) (fun h5=>ai (iok (i40+1) (by omega)) (bk52_0 lines i0 m0 (i40+1) hl0 (runL_next hI0 (condT h4 (condF h5 rfl))) (by refine ⟨?_,?_,?_⟩ <;> omega))))))) (fun h4 _=>have hD0_6:lX52_0 lines=Lp.done i40:=runL_done hI0 (condF h4 rfl); ai (kn lines fun _=>ai (en52_1 lines (by omega)) (fun (i1:Nat×(Int×ML Bool)) (hi1:lJ52_1 lines i1)=>(fun (m1:Nat) (v31:Int) (ms:ML Bool) (hh1:lH52_1 lines i1 m1 v31 ms)=>have hI1:=hh1.1; have hl1:=hh1.2.1; have _:=hh1.2.2.1; have _:=hh1.2.2.2; ifd (v31<(lines.length:Int)) (fun h8 _=>ai (by omega:ib v31 lines) (kc13 (lines.getD v31.toNat default) (by first | omega | exact hpre0 _ | (intros; exact trivial) | (intros; exact Nat.zero_le _)) (ai (Eq.refl (MX Value.bool ms)) (ai (Eq.refl (Value.bool true)) (ai (iok (v31+1) (by omega)) (bk52_1 lines i1 m1 (v31+1) (putM ms (F13 (lines.getD v31.toNat default)) true) hl1 (runL_next hI1 (condT h8 rfl)) (by refine ⟨?_,?_⟩ <;> omega))))))) (fun h8 _=>have hD1_9:lX52_1 lines=Lp.done (v31,ms):=runL_done hI1 (condF h8 rfl); jn52_0 lines ms (Eq.symm (finD hD1_9 rfl)) )) (i1.1-1) i1.2.1 i1.2.2 (un52_1 lines i1 hi1))) (fun (j:ML Bool) (hj:jJ52_0 lines j)=>(fun (keys:ML Bool) (hJ0_10:(F52_j0 lines)=Lp.done keys)=>ai (Eq.refl (MX Value.bool keys)) (ifd ((keys.length:Int)<(lines.length:Int)) (fun h11 _=>fiI 4 (F52 lines) (condF h1 (condF h2 (finD hD0_6 (finD hJ0_10 (condT h11 rfl)))))) (fun h11 _=>fiI 0 (F52 lines) (condF h1 (condF h2 (finD hD0_6 (finD hJ0_10 (condF h11 rfl)))))))) j hj))) (i0.1-1) i0.2 (un52_0 lines i0 hi0))))))))) (by kernel_rfl)
theorem kc116a (lines:List ByteArray) {K_:Prop} (p0_:lines.length≤1048576) (p1_:∀ k:Nat,(lines.getD k default).size≤1048576) (k_:K_):(lines.length≤1048576∧(∀ k:Nat,(lines.getD k default).size≤1048576))∧(Imp (.l 1 eStr lines) (.l 1 eStr lines))∧K_:=⟨⟨p0_,p1_⟩,Imp.refl _,k_⟩
abbrev kh116a (lines:List ByteArray):Hint true Tryz.prog:=.call 116 (T116 (lines.map F14) lines) (oa116 lines) none
def F58_s2 (lines:List ByteArray):Int→Lp Int Int:=fun i42 =>
 bif (decide (i42<(lines.length:Int))) then (bif (F84 ((lines.map F14).take i42.toNat) ((lines.map F14).getD i42.toNat default)) then (.ret 4) else (.next (i42+1))) else (.done i42)
def F58_s1 (lines:List ByteArray):Int→Lp Int Int:=fun i41 =>
 bif (decide (i41<(lines.length:Int))) then (bif (!(Op.bytesLess (lines.getD (i41-1).toNat default).toList (lines.getD i41.toNat default).toList)) then (.ret 3) else (.next (i41+1))) else (.done i41)
def F58_s0 (lines:List ByteArray):Int→Lp Int Int:=fun i40 =>
 bif (decide (i40<(lines.length:Int))) then (bif (((lines.map F14).getD i40.toNat default).toList==(⟨#[]⟩:ByteArray).toList) then (.ret 2) else (.next (i40+1))) else (.done i40)
def F58 (lines:List ByteArray):Int :=
 bif (decide ((lines.length:Int)>16)) then 1 else ((runL (F58_s0 lines) (((lines.length:Int)-0).toNat+1) 0).fin (fun r=>r) (fun i40=>(runL (F58_s1 lines) (((lines.length:Int)-1).toNat+1) 1).fin (fun r=>r) (fun i41=>(runL (F58_s2 lines) (((lines.length:Int)-0).toNat+1) 0).fin (fun r=>r) (fun i42=>0))))
abbrev lN58_2 (lines:List ByteArray):Nat×Int:=((((lines.length:Int)-0).toNat+1),0)
abbrev lI58_2 (lines:List ByteArray) (m39:Nat) (i42:Int):Prop:=Int.toNat ((lines.length:Int)-i42)<m39∧(0:Int)≤i42
abbrev lX58_2 (lines:List ByteArray):Lp Int Int:=LpX (F58_s2 lines) (lN58_2 lines)
abbrev lJ58_2 (lines:List ByteArray) (i:Nat×Int):Prop:=LpJ (F58_s2 lines) (lN58_2 lines) i (lI58_2 lines i.1 i.2)
abbrev lH58_2 (lines:List ByteArray) (i:Nat×Int) (m39:Nat) (i42:Int):Prop:=LpH (F58_s2 lines) (lN58_2 lines) i m39 i42 (lI58_2 lines (m39+1) i42)
abbrev lE58_2 (lines:List ByteArray) (i42:Int) (i42_:Int) (K39:Prop):Prop:=((.int .i64 i42:Value)=.int .i64 i42_)∧(Im (.l 1 eStr lines))∧(Im (.l 1 eStr (lines.map F14)))∧K39
theorem un58_2 (lines:List ByteArray) (i:Nat×Int) (h:lJ58_2 lines i):lH58_2 lines i (i.1-1) i.2:=⟨hd1 h.1 h.2.1,hd3 h.2.1,hd2 h.2.1,h.2.2⟩
theorem bk58_2 (lines:List ByteArray) (i:Nat×Int) (m39:Nat) (i42:Int) (hl:m39<i.1) (e:runL (F58_s2 lines) m39 i42=lX58_2 lines) (h:lI58_2 lines m39 i42):∃ j:Nat×Int,lE58_2 lines i42 j.2 (lJ58_2 lines j∧j.1<i.1):=⟨(m39,i42),rfl,Imp.refl _,Imp.refl _,⟨e,h⟩,hl⟩
theorem en58_2 (lines:List ByteArray) (h:(0:Int)≤0):lE58_2 lines 0 0 (lJ58_2 lines (lN58_2 lines)):=⟨rfl,Imp.refl _,Imp.refl _,rfl,Nat.lt_succ_self _,h⟩
abbrev lN58_1 (lines:List ByteArray):Nat×Int:=((((lines.length:Int)-1).toNat+1),1)
abbrev lI58_1 (lines:List ByteArray) (m39:Nat) (i41:Int):Prop:=Int.toNat ((lines.length:Int)-i41)<m39∧(1:Int)≤i41∧(0:Int)≤i41
abbrev lX58_1 (lines:List ByteArray):Lp Int Int:=LpX (F58_s1 lines) (lN58_1 lines)
abbrev lJ58_1 (lines:List ByteArray) (i:Nat×Int):Prop:=LpJ (F58_s1 lines) (lN58_1 lines) i (lI58_1 lines i.1 i.2)
abbrev lH58_1 (lines:List ByteArray) (i:Nat×Int) (m39:Nat) (i41:Int):Prop:=LpH (F58_s1 lines) (lN58_1 lines) i m39 i41 (lI58_1 lines (m39+1) i41)
abbrev lE58_1 (lines:List ByteArray) (i41:Int) (i41_:Int) (K39:Prop):Prop:=((.int .i64 i41:Value)=.int .i64 i41_)∧(Im (.l 1 eStr lines))∧(Im (.l 1 eStr (lines.map F14)))∧K39
theorem un58_1 (lines:List ByteArray) (i:Nat×Int) (h:lJ58_1 lines i):lH58_1 lines i (i.1-1) i.2:=⟨hd1 h.1 h.2.1,hd3 h.2.1,hd2 h.2.1,h.2.2⟩
theorem bk58_1 (lines:List ByteArray) (i:Nat×Int) (m39:Nat) (i41:Int) (hl:m39<i.1) (e:runL (F58_s1 lines) m39 i41=lX58_1 lines) (h:lI58_1 lines m39 i41):∃ j:Nat×Int,lE58_1 lines i41 j.2 (lJ58_1 lines j∧j.1<i.1):=⟨(m39,i41),rfl,Imp.refl _,Imp.refl _,⟨e,h⟩,hl⟩
theorem en58_1 (lines:List ByteArray) (h:(1:Int)≤1∧(0:Int)≤1):lE58_1 lines 1 1 (lJ58_1 lines (lN58_1 lines)):=⟨rfl,Imp.refl _,Imp.refl _,rfl,Nat.lt_succ_self _,h⟩
abbrev lN58_0 (lines:List ByteArray):Nat×Int:=((((lines.length:Int)-0).toNat+1),0)
abbrev lI58_0 (lines:List ByteArray) (m39:Nat) (i40:Int):Prop:=Int.toNat ((lines.length:Int)-i40)<m39∧(0:Int)≤i40
abbrev lX58_0 (lines:List ByteArray):Lp Int Int:=LpX (F58_s0 lines) (lN58_0 lines)
abbrev lJ58_0 (lines:List ByteArray) (i:Nat×Int):Prop:=LpJ (F58_s0 lines) (lN58_0 lines) i (lI58_0 lines i.1 i.2)
abbrev lH58_0 (lines:List ByteArray) (i:Nat×Int) (m39:Nat) (i40:Int):Prop:=LpH (F58_s0 lines) (lN58_0 lines) i m39 i40 (lI58_0 lines (m39+1) i40)
abbrev lE58_0 (lines:List ByteArray) (i40:Int) (i40_:Int) (K39:Prop):Prop:=((.int .i64 i40:Value)=.int .i64 i40_)∧(Im (.l 1 eStr lines))∧(Im (.l 1 eStr (lines.map F14)))∧K39
theorem un58_0 (lines:List ByteArray) (i:Nat×Int) (h:lJ58_0 lines i):lH58_0 lines i (i.1-1) i.2:=⟨hd1 h.1 h.2.1,hd3 h.2.1,hd2 h.2.1,h.2.2⟩
theorem bk58_0 (lines:List ByteArray) (i:Nat×Int) (m39:Nat) (i40:Int) (hl:m39<i.1) (e:runL (F58_s0 lines) m39 i40=lX58_0 lines) (h:lI58_0 lines m39 i40):∃ j:Nat×Int,lE58_0 lines i40 j.2 (lJ58_0 lines j∧j.1<i.1):=⟨(m39,i40),rfl,Imp.refl _,Imp.refl _,⟨e,h⟩,hl⟩
theorem en58_0 (lines:List ByteArray) (h:(0:Int)≤0):lE58_0 lines 0 0 (lJ58_0 lines (lN58_0 lines)):=⟨rfl,Imp.refl _,Imp.refl _,rfl,Nat.lt_succ_self _,h⟩
def S58 (lines:List ByteArray):Spec:=⟨[.r (.c (.l 1 eStr lines))],.v (vI (F58 lines)),(∀ k:Nat,(lines.getD k default).size≤1048576)⟩
theorem ok58 (lines:List ByteArray):(S58 lines).ok Tryz.prog 58 :=
 fnG_ok mixed (fn:=Tryz.f58) (ct:=.seqk [(0,0)] .no (.seq (.seq .no (.cond (.seq .no .no) .no)) (.seq (.reg [(1,kh116a lines)]) (.seq (.seqk [(0,0),(3,0)] .no (.blk (.loop (ι:=Nat×Int) (fun i=>(fun (i40:Int)=>(⟨[(0,some (.h 0 0)),(3,some (.h 1 0)),(4,some (.v (vI i40)))],[(0,some (.shr none (.l 1 eStr lines))),(1,some (.own 1 (.l 1 eStr (lines.map F14))))],2⟩:St)) i.2) (lJ58_0 lines) (fun i=>i.1) (lN58_0 lines) (fun i=>(fun (i40:Int)=>(.seq (.seq .no (.cond .no .no)) (.seq (.blk (.seq .no (.cond (.seq .no .no) .no))) (.reg [(1,.bnd)])))) i.2)))) (.seq (.seqk [(0,0)] .no (.blk (.loop (ι:=Nat×Int) (fun i=>(fun (i41:Int)=>(⟨[(0,some (.h 0 0)),(3,some (.h 1 0)),(5,some (.v (vI i41)))],[(0,some (.shr none (.l 1 eStr lines))),(1,some (.own 1 (.l 1 eStr (lines.map F14))))],2⟩:St)) i.2) (lJ58_1 lines) (fun i=>i.1) (lN58_1 lines) (fun i=>(fun (i41:Int)=>(.seq (.seq .no (.cond .no .no)) (.seq (.blk (.seq (.reg [(2,.bnd)]) (.cond (.seq .no .no) .no))) (.reg [(1,.bnd)])))) i.2)))) (.seq (.seqk [(0,0),(3,0)] .no (.blk (.loop (ι:=Nat×Int) (fun i=>(fun (i42:Int)=>(⟨[(0,some (.h 0 0)),(3,some (.h 1 0)),(6,some (.v (vI i42)))],[(0,some (.shr none (.l 1 eStr lines))),(1,some (.own 1 (.l 1 eStr (lines.map F14))))],2⟩:St)) i.2) (lJ58_2 lines) (fun i=>i.1) (lN58_2 lines) (fun i=>(fun (i42:Int)=>(.seq (.seq .no (.cond .no .no)) (.seq (.blk (.seq (.reg [(7,kh84 ((lines.map F14).take i42.toNat) ((lines.map F14).getD i42.toNat default))]) (.cond (.seq .no .no) .no))) (.reg [(1,.bnd)])))) i.2)))) (.seq .no .no))))))) Tryz.func58 (fun (hpre0:∀ k:Nat,(lines.getD k default).size≤1048576)=>kn lines fun _=>ifd ((lines.length:Int)>16) (fun h1 _=>fiI 1 (F58 lines) (condT h1 rfl)) (fun h1 _=>kc116a lines (by first | omega | (simp only [lens,ib] at*<;> omega)) (by first | assumption | exact hpre0 _ | exact fun k _=>hpre0 k | (intros; exact trivial) | (intros; exact Nat.zero_le _)) (kn lines fun _=>kn (lines.map F14) fun _=>ai (en58_0 lines (by first | omega | (simp only [lens,ib] at*<;> omega))) (fun (i0:Nat×Int) (hi0:lJ58_0 lines i0)=>(fun (m0:Nat) (i40:Int) (hh0:lH58_0 lines i0 m0 i40)=>have hI0:=hh0.1; have hl0:=hh0.2.1; have _:=hh0.2.2.1; have _:=hh0.2.2.2; ifd (i40<(lines.length:Int)) (fun h3 _=>ai (by first | omega | (simp only [lens,ib] at*<;> omega):ib i40 (lines.map F14)) (ifb (((lines.map F14).getD i40.toNat default).toList==w13_.toList) (fun h4=>fiI 2 (F58 lines) (condF h1 (finR (runL_ret hI0 (condT h3 (condT h4 rfl))) rfl))) (fun h4=>ai (iok (i40+1) (by first | omega | (simp only [lens,ib] at*<;> omega))) (bk58_0 lines i0 m0 (i40+1) hl0 (runL_next hI0 (condT h3 (condF h4 rfl))) (by refine ⟨?_,?_⟩ <;> first | omega | (simp only [lens,ib] at*<;> omega)))))) (fun h3 _=>have hD0_5:lX58_0 lines=Lp.done i40:=runL_done hI0 (condF h3 rfl); kn lines fun _=>ai (en58_1 lines (by refine ⟨?_,?_⟩ <;> first | omega | (simp only [lens,ib] at*<;> omega))) (fun (i1:Nat×Int) (hi1:lJ58_1 lines i1)=>(fun (m1:Nat) (i41:Int) (hh1:lH58_1 lines i1 m1 i41)=>have hI1:=hh1.1; have hl1:=hh1.2.1; have _:=hh1.2.2.1; have _:=hh1.2.2.2; ifd (i41<(lines.length:Int)) (fun h7 _=>ai (iok (i41-1) (by first | omega | (simp only [lens,ib] at*<;> omega))) (ai (by first | omega | (simp only [lens,ib] at*<;> omega):ib (i41-1) lines) (ai (by first | omega | (simp only [lens,ib] at*<;> omega):ib i41 lines) (ifb (!(Op.bytesLess (lines.getD (i41-1).toNat default).toList (lines.getD i41.toNat default).toList)) (fun h8=>fiI 3 (F58 lines) (condF h1 (finD hD0_5 (finR (runL_ret hI1 (condT h7 (condT h8 rfl))) rfl)))) (fun h8=>ai (iok (i41+1) (by first | omega | (simp only [lens,ib] at*<;> omega))) (bk58_1 lines i1 m1 (i41+1) hl1 (runL_next hI1 (condT h7 (condF h8 rfl))) (by refine ⟨?_,?_,?_⟩ <;> first | omega | (simp only [lens,ib] at*<;> omega)))))))) (fun h7 _=>have hD1_9:lX58_1 lines=Lp.done i41:=runL_done hI1 (condF h7 rfl); kn lines fun _=>kn (lines.map F14) fun _=>ai (en58_2 lines (by first | omega | (simp only [lens,ib] at*<;> omega))) (fun (i2:Nat×Int) (hi2:lJ58_2 lines i2)=>(fun (m2:Nat) (i42:Int) (hh2:lH58_2 lines i2 m2 i42)=>have hI2:=hh2.1; have hl2:=hh2.2.1; have _:=hh2.2.2.1; have _:=hh2.2.2.2; ifd (i42<(lines.length:Int)) (fun h11 _=>ai (by first | omega | (simp only [lens,ib] at*<;> omega):0≤(0:Int)∧(0:Int)≤i42∧i42≤((lines.map F14).length:Int)) (ai (by first | omega | (simp only [lens,ib] at*<;> omega):ib i42 (lines.map F14)) (kc84 ((lines.map F14).take i42.toNat) ((lines.map F14).getD i42.toNat default) (ifb (F84 ((lines.map F14).take i42.toNat) ((lines.map F14).getD i42.toNat default)) (fun h12=>fiI 4 (F58 lines) (condF h1 (finD hD0_5 (finD hD1_9 (finR (runL_ret hI2 (condT h11 (condT h12 rfl))) rfl))))) (fun h12=>ai (iok (i42+1) (by first | omega | (simp only [lens,ib] at*<;> omega))) (bk58_2 lines i2 m2 (i42+1) hl2 (runL_next hI2 (condT h11 (condF h12 rfl))) (by refine ⟨?_,?_⟩ <;> first | omega | (simp only [lens,ib] at*<;> omega)))))))) (fun h11 _=>have hD2_13:lX58_2 lines=Lp.done i42:=runL_done hI2 (condF h11 rfl); fiI 0 (F58 lines) (condF h1 (finD hD0_5 (finD hD1_9 (finD hD2_13 rfl)))))) (i2.1-1) i2.2 (un58_2 lines i2 hi2)))) (i1.1-1) i1.2 (un58_1 lines i1 hi1)))) (i0.1-1) i0.2 (un58_0 lines i0 hi0))))) (by kernel_rfl)
instance baLawful:LawfulBEq ByteArray where
 eq_of_beq h:=(Go.MapKept.bytes_beq _ _).1 h
 rfl:=(Go.MapKept.bytes_beq _ _).2 rfl
theorem key_none (l:ByteArray) (h:F47 l=false):F14 l=(⟨#[]⟩:ByteArray):=by
 unfold F14
 rw [h]; rfl
theorem key_empty (l:ByteArray):((F14 l).toList==(⟨#[]⟩:ByteArray).toList)=!F47 l:=by
 cases h:F47 l with
 | false=>rw [key_none l h]; rw [beq_ba]; rfl
 | true =>
  rw [byteToList,byteToList,key_eq l h,Bool.not_true,beq_eq_false_iff_ne]
  have hk:=keptP l h
  have hl:=form_two_le _ hk.form
  have hn:=form_key_le _ hk.form
  have hno:=hk.no
  generalize (F11 l).1=w at hl hn hno
  match w,hl with
  | a :: r,_ =>
   have e:((keyN (((a :: r).getD 0 default).data.toList)).toNat)=(keyN (((a :: r).getD 0 default).data.toList)).toNat-1+1:=by omega
   rw [e,List.take_succ_cons,joinS_data,List.map_cons,Lib.join_cons]
   intro h0
   exact (hno a List.mem_cons_self).2.1 (List.append_eq_nil_iff.1 h0).1
def dupK:List ByteArray→List ByteArray→Bool
 | _,[]=>false
 | seen,s :: r=>decide (s∈seen) || dupK (seen++[s]) r
def insK (ks:List ByteArray) (s:ByteArray):List ByteArray:=if s∈ks then ks else ks++[s]
theorem insK_le:∀ (keys ks:List ByteArray),(keys.foldl insK ks).length≤ks.length+keys.length
 | [],ks=>by simp
 | s :: r,ks=>by
  rw [List.foldl_cons]
  have h:=insK_le r (insK ks s)
  have h2:(insK ks s).length≤ks.length+1:=by unfold insK; split <;> simp
  simp only [List.length_cons]; omega
theorem insK_dup:∀ (keys ks seen:List ByteArray),(∀ s,s∈ks↔s∈seen)→decide ((keys.foldl insK ks).length<ks.length+keys.length)=dupK seen keys
 | [],ks,seen,_=>by simp [dupK]
 | s :: r,ks,seen,h=>by
  rw [List.foldl_cons,dupK]
  by_cases hs:s∈ks
  ·have e:insK ks s=ks:=by unfold insK; rw [if_pos hs]
   rw [e,decide_eq_true ((h s).1 hs),Bool.true_or]
   have:=insK_le r ks
   exact decide_eq_true (by simp only [List.length_cons]; omega)
  ·have e:insK ks s=ks++[s]:=by unfold insK; rw [if_neg hs]
   rw [e,decide_eq_false (fun x=>hs ((h s).2 x)),Bool.false_or,← insK_dup r (ks++[s]) (seen++[s]) (fun t=>by simp [h t])]
   congr 1
   simp only [List.length_append,List.length_cons,List.length_nil]
   exact propext ⟨fun x=>by omega,fun x=>by omega⟩
theorem putM_keys {α:Type}:∀ (m:ML α) (s:ByteArray) (x:α),(putM m s x).map (·.1)=insK (m.map (·.1)) s
 | [],s,x=>by simp [putM,insK]
 | p :: m,s,x=>by
  rw [putM]
  by_cases h:p.1=s
  ·rw [if_pos h]; subst h; simp [insK]
  ·rw [if_neg h,List.map_cons,putM_keys m s x]
   unfold insK
   have h':¬ s=p.1:=fun e=>h e.symm
   by_cases hm:s∈m.map (·.1)
   ·rw [if_pos hm,List.map_cons,if_pos (List.mem_cons_of_mem _ hm)]
   ·rw [if_neg hm,List.map_cons,if_neg (by simp only [List.mem_cons,not_or]; exact ⟨h',hm⟩)]; rfl
theorem foldM_keys {α:Type} (f:ByteArray→ByteArray) (v:ByteArray→α):∀ (ls:List ByteArray) (m:ML α),(ls.foldl (fun m l=>putM m (f l) (v l)) m).map (·.1)=(ls.map f).foldl insK (m.map (·.1))
 | [],m=>rfl
 | l :: ls,m=>by
  rw [List.foldl_cons,foldM_keys f v ls,putM_keys,List.map_cons,List.foldl_cons]
theorem specHas_mem (ws:List ByteArray) (x:ByteArray):F84 ws x=decide (x∈ws):=by
 rw [specHas_eq,Bool.eq_iff_iff,List.any_eq_true,decide_eq_true_eq]
 constructor
 ·rintro ⟨e,he,h⟩
  rw [beq_ba,decide_eq_true_eq] at h
  exact h ▸ he
 ·exact fun h=>⟨x,h,by rw [beq_ba]; exact decide_eq_true rfl⟩
theorem dup_loop (keys:List ByteArray):∀ (m i:Nat),i+m=keys.length→anyF (fun k=>decide (keys.getD k default∈keys.take k)) i m=dupK (keys.take i) (keys.drop i)
 | 0,i,h=>by rw [List.drop_of_length_le (by omega)]; rfl
 | m+1,i,h=>by
  have hd:keys.drop i=keys.getD i default :: keys.drop (i+1):=by
   rw [List.drop_eq_getElem_cons (show i<keys.length by omega),List.getD_eq_getElem?_getD,List.getElem?_eq_getElem (show i<keys.length by omega)]; rfl
  rw [hd,dupK,anyF,dup_loop keys m (i+1) (by omega),take_next (show i<keys.length by omega)]
theorem getD_map (f:ByteArray→ByteArray) (ls:List ByteArray) (i:Nat) (h:i<ls.length):(ls.map f).getD i default=f (ls.getD i default):=by
 rw [getD_lt _ (by simpa using h),getD_lt _ h,List.getElem_map]
theorem anyL_congr {α:Type} {p q:α→Bool} {xs:List α} (h:∀ x,p x=q x):xs.any p=xs.any q:=by rw [show p=q from funext h]
theorem neat_same (lines:List ByteArray):F52 lines=F58 lines:=by
 unfold F52 F58
 have hkept:∀ x:ByteArray,F101 x=!F47 x:=fun x=>by unfold F101; rw [keptSo_eq]
 cases h16:decide ((lines.length:Int)>16) with
 | true=>rfl
 | false =>
 rw [cond_false,cond_false]
 have h0:=anyL lines (fun l=>!F47 l) (2:Int) (F58_s0 lines) (fun i hi=>by
  simp only [F58_s0,ltD hi,cond_true,nn,getD_map _ _ _ hi,key_empty]
  rfl) (by simp only [F58_s0,geD,cond_false]) (fun r=>r) (fun _=>(runL (F58_s1 lines) ((Int.toNat ((lines.length:Int)-1))+1) 1).fin (fun r=>r) (fun i41=>(runL (F58_s2 lines) ((Int.toNat ((lines.length:Int)-0))+1) 0).fin (fun r=>r) (fun i42=>0))) _ (fun _=>rfl)
 rw [h0]
 have e1:(lines.any fun x0=>F101 x0)=lines.any fun l=>!F47 l:=anyL_congr hkept
 rw [e1]
 cases (lines.any fun l=>!F47 l) with
 | true=>rfl
 | false =>
 rw [cond_false,cond_false]
 have e2:F52_s0 lines=F58_s1 lines:=rfl
 rw [e2]
 congr 1
 funext i
 have h2:=any_loop (F58_s2 lines) lines.length (fun k=>decide ((lines.map F14).getD k default∈(lines.map F14).take k)) (4:Int) (fun r=>r) (0:Int) (fun i hi=>by
  simp only [F58_s2,ltD hi,cond_true,nn,specHas_mem]; rfl) (by simp only [F58_s2,geD,cond_false]) lines.length 0 (by omega) (Int.toNat ((lines.length:Int)-0)+1) (by omega)
 rw [dup_loop (lines.map F14) lines.length 0 (by simp),List.take_zero,List.drop_zero] at h2
 refine Eq.trans ?_ h2.symm
 have h3:=fold_loop0 lines (fun (m:ML Bool) l=>putM m (F14 l) true) (fun m i=>(i,m)) (F52_s1 lines) (fun i s hi=>by
  simp only [F52_s1,ltD hi,cond_true,nn,key_same]; rfl) (fun s=>by simp only [F52_s1,geD,cond_false]) Lp.ret (fun (v31,ms)=>Lp.done ms) ([]:ML Bool)
 have h4:F52_j0 lines=Lp.done (lines.foldl (fun (m:ML Bool) l=>putM m (F14 l) true) []):=h3
 rw [h4]
 show (bif decide (((lines.foldl (fun (m:ML Bool) l=>putM m (F14 l) true) []).length:Int)<(lines.length:Int)) then (4:Int) else 0)=_
 have h5:=insK_dup (lines.map F14) [] [] (fun s=>Iff.rfl)
 have h6:(lines.foldl (fun (m:ML Bool) l=>putM m (F14 l) true) []).length=((lines.map F14).foldl insK []).length:=by
  have:=congrArg List.length (foldM_keys F14 (fun _=>true) lines [])
  rw [List.length_map] at this
  exact this
 rw [← h5,h6]
 congr 1
 simp only [List.length_nil,Nat.zero_add,List.length_map]
 exact decide_eq_decide.2 (by omega)
theorem nt_facts (lines:List ByteArray) (h:F58 lines=0):lines.length≤16∧∀ l∈lines,F47 l=true:=by
 unfold F58 at h
 cases h16:decide ((lines.length:Int)>16) with
 | true=>rw [h16,cond_true] at h; exact absurd h (by decide)
 | false =>
 rw [h16,cond_false] at h
 have h0:=anyL lines (fun l=>!F47 l) (2:Int) (F58_s0 lines) (fun i hi=>by
  simp only [F58_s0,ltD hi,cond_true,nn,getD_map _ _ _ hi,key_empty]
  rfl) (by simp only [F58_s0,geD,cond_false]) (fun r=>r) (fun _=>(runL (F58_s1 lines) ((Int.toNat ((lines.length:Int)-1))+1) 1).fin (fun r=>r) (fun i41=>(runL (F58_s2 lines) ((Int.toNat ((lines.length:Int)-0))+1) 0).fin (fun r=>r) (fun i42=>0))) _ (fun _=>rfl)
 rw [h0] at h
 cases ha:(lines.any fun l=>!F47 l) with
 | true=>rw [ha,cond_true] at h; exact absurd h (by decide)
 | false =>
  have h1:=of_decide_eq_false h16
  refine ⟨by omega,fun l hl=>?_⟩
  have:=List.any_eq_false.1 ha l hl
  cases hk:F47 l with
  | true=>rfl
  | false=>rw [hk] at this; exact absurd rfl this
theorem neat_len (lines:List ByteArray) (h:F58 lines=0):lines.length≤16:=(nt_facts lines h).1
theorem linesL_len (lines:List ByteArray) (word:ByteArray) (h:lines.length≤16):(linesL lines word).length≤16:=by
 unfold linesL
 have:=List.length_filter_le (fun w:List ByteArray=>(w.getD 0 default).data.toList==word.data.toList) (lines.map fun l=>splitS l (⟨#[32]⟩:ByteArray))
 rw [List.length_map] at this
 omega
theorem kept_split (l:ByteArray) (h:F47 l=true):splitS l (⟨#[32]⟩:ByteArray)=(F11 l).1:=(keptP l h).splits
theorem linesL_mem {lines:List ByteArray} {word:ByteArray} {w:List ByteArray} (h:F58 lines=0) (hw:w∈linesL lines word):∃ l∈lines,KeptP l w∧(w.getD 0 default).data.toList=word.data.toList:=by
 obtain ⟨h1,h2⟩:=List.mem_filter.1 hw
 obtain ⟨l,hl,rfl⟩:=List.mem_map.1 h1
 have hk:=(nt_facts lines h).2 l hl
 refine ⟨l,hl,?_,eq_of_beq h2⟩
 rw [kept_split l hk]
 exact keptP l hk
theorem linesL_at {lines:List ByteArray} {word:ByteArray} (h:F58 lines=0) {k:Nat} (hk:k<(linesL lines word).length):FormP ((linesL lines word).getD k default)∧(((linesL lines word).getD k default).getD 0 default).data.toList=word.data.toList:=by
 obtain ⟨l,hl,h1,h2⟩:=linesL_mem h (getD_mem _ hk)
 exact ⟨h1.form,h2⟩
theorem linesL_sz24 (lines:List ByteArray) (word:ByteArray) (h:F58 lines=0) (k j:Nat):(((linesL lines word).getD k default).getD j default).size≤24:=by
 by_cases hk:k<(linesL lines word).length
 ·obtain ⟨l,hl,h1,h2⟩:=linesL_mem h (getD_mem _ hk)
  by_cases hj:j<((linesL lines word).getD k default).length
  ·exact (h1.no _ (getD_mem _ hj)).2.2
  ·rw [getD_ge _ (show ((linesL lines word).getD k default).length≤j by omega)]; exact Nat.zero_le _
 ·rw [getD_ge _ (show (linesL lines word).length≤k by omega)]; exact Nat.zero_le _
theorem linesL_sz (lines:List ByteArray) (word:ByteArray) (h:F58 lines=0) (k j:Nat):(((linesL lines word).getD k default).getD j default).size≤1048576:=Nat.le_trans (linesL_sz24 lines word h k j) (by decide)
theorem user_of {w:List ByteArray} (h:FormP w) (h0:(w.getD 0 default).data.toList=[117,115,101,114]):userP w:=by
 rcases h with h | h | h | h | h | h | h | h
 ·exact absurd (h0.symm.trans h.1) (by decide)
 ·exact h
 ·exact absurd (h0.symm.trans h.1) (by decide)
 ·exact absurd (h0.symm.trans h.1) (by decide)
 ·exact absurd (h0.symm.trans h.1) (by decide)
 ·exact absurd (h0.symm.trans h.1) (by decide)
 ·exact absurd (h0.symm.trans h.1) (by decide)
 ·exact absurd (h0.symm.trans h.1) (by decide)
theorem user_at (lines:List ByteArray) (h:F58 lines=0):∀ k:Nat,k<(linesL lines (⟨#[117,115,101,114]⟩:ByteArray)).length→userP ((linesL lines (⟨#[117,115,101,114]⟩:ByteArray)).getD k default):=fun k hk=>user_of (linesL_at h hk).1 (linesL_at h hk).2
theorem kc103a (lines:List ByteArray) (word:ByteArray) {K_:Prop} (p0_:lines.length≤1048576) (p1_:∀ k:Nat,(lines.getD k default).size≤1048576) (q0_:lines.length≤16) (k_:((linesL lines word).length≤16)→K_):(lines.length≤1048576∧(∀ k:Nat,(lines.getD k default).size≤1048576))∧(Imp (.l 1 eStr lines) (.l 1 eStr lines))∧(Imp (.v (.string word)) (.v (.string word)))∧K_:=⟨⟨p0_,p1_⟩,Imp.refl _,Imp.refl _,k_ (linesL_len lines word q0_)⟩
abbrev kh103a (lines:List ByteArray) (word:ByteArray):Hint true Tryz.prog:=.call 103 (T103 (linesL lines word) lines word) (oa103 lines word) none
structure l52Cut where
 w:List ByteArray
 deriving DecidableEq,Inhabited
def el52Cut (x:l52Cut):List Dat:=[.l 1 eStr x.w]
def F59_s0 (lines:List ByteArray):(List l52Cut×Int)→Lp (List l52Cut×Int) (List l52Cut):=fun (out,i40) =>
 bif (decide (i40<(lines.length:Int))) then (.next ((out++[(⟨(F11 (lines.getD (Int.toNat i40) default)).1⟩:l52Cut)]),(i40+1))) else (.done (out,i40))
def F59 (lines:List ByteArray):List l52Cut :=
 (runL (F59_s0 lines) ((Int.toNat ((lines.length:Int)-0))+1) (([]:List l52Cut),0)).fin (fun r=>r) (fun (out,i40)=>out)
abbrev lN59_0 (lines:List ByteArray):Nat×(List l52Cut×Int):=(((Int.toNat ((lines.length:Int)-0))+1),(([]:List l52Cut),0))
abbrev lI59_0 (lines:List ByteArray) (m39:Nat) (out:List l52Cut) (i40:Int):Prop:=Int.toNat ((lines.length:Int)-i40)<m39∧(out.length:Int)≤i40∧(0:Int)≤i40
abbrev lX59_0 (lines:List ByteArray):Lp (List l52Cut×Int) (List l52Cut):=LpX (F59_s0 lines) (lN59_0 lines)
abbrev lJ59_0 (lines:List ByteArray) (i:Nat×(List l52Cut×Int)):Prop:=LpJ (F59_s0 lines) (lN59_0 lines) i (lI59_0 lines i.1 i.2.1 i.2.2)
abbrev lH59_0 (lines:List ByteArray) (i:Nat×(List l52Cut×Int)) (m39:Nat) (out:List l52Cut) (i40:Int):Prop:=LpH (F59_s0 lines) (lN59_0 lines) i m39 (out,i40) (lI59_0 lines (m39+1) out i40)
abbrev lE59_0 (lines:List ByteArray) (out:List l52Cut) (i40:Int) (out_:List l52Cut) (i40_:Int) (K39:Prop):Prop:=((.int .i64 i40:Value)=.int .i64 i40_)∧(Im (.l 1 eStr lines))∧(Imp (.l 1 el52Cut out) (.l 1 el52Cut out_))∧K39
theorem un59_0 (lines:List ByteArray) (i:Nat×(List l52Cut×Int)) (h:lJ59_0 lines i):lH59_0 lines i (i.1-1) i.2.1 i.2.2:=⟨hd1 h.1 h.2.1,hd3 h.2.1,hd2 h.2.1,h.2.2⟩
theorem bk59_0 (lines:List ByteArray) (i:Nat×(List l52Cut×Int)) (m39:Nat) (out:List l52Cut) (i40:Int) (hl:m39<i.1) (e:runL (F59_s0 lines) m39 (out,i40)=lX59_0 lines) (h:lI59_0 lines m39 out i40):∃ j:Nat×(List l52Cut×Int),lE59_0 lines out i40 j.2.1 j.2.2 (lJ59_0 lines j∧j.1<i.1):=⟨(m39,(out,i40)),rfl,Imp.refl _,Imp.refl _,⟨e,h⟩,hl⟩
theorem en59_0 (lines:List ByteArray) (h:(([]:List l52Cut).length:Int)≤0∧(0:Int)≤0):lE59_0 lines ([]:List l52Cut) 0 ([]:List l52Cut) 0 (lJ59_0 lines (lN59_0 lines)):=⟨rfl,Imp.refl _,Imp.refl _,rfl,Nat.lt_succ_self _,h⟩
theorem fi59 (lines:List ByteArray) (r:List l52Cut) (hF:r=(F59 lines)):(Imp (.l 1 el52Cut r) (.l 1 el52Cut (F59 lines)))∧True:=by cases hF; exact ⟨Imp.refl _,trivial⟩
def S59 (R:List l52Cut) (lines:List ByteArray):Spec:=⟨[.r (.c (.l 1 eStr lines))],.ow (.l 1 el52Cut R),lines.length≤16∧(∀ k:Nat,(lines.getD k default).size≤1048576)⟩
theorem ok59 (lines:List ByteArray):(S59 (F59 lines) lines).ok Tryz.prog 59 :=
 fnG_ok mixed (fn:=Tryz.f59) (ct:=.seqk [(0,0)] .no (.seq (.reg [(0,.dat (.l 1 el52Cut ([]:List l52Cut)))]) (.seq (.seqk [(0,0),(3,0)] .no (.blk (.loop (ι:=Nat×(List l52Cut×Int)) (fun i=>(fun (out:List l52Cut) (i40:Int)=>(⟨[(0,some (.h 0 0)),(3,some (.h 1 0)),(4,some (.v (vI i40)))],[(0,some (.shr none (.l 1 eStr lines))),(1,some (.own 1 (.l 1 el52Cut out)))],2⟩:St)) i.2.1 i.2.2) (lJ59_0 lines) (fun i=>i.1) (lN59_0 lines) (fun i=>(fun (out:List l52Cut) (i40:Int)=>(.seq (.seq .no (.cond .no .no)) (.seq (.blk (.seq (.reg [(4,kh11 (lines.getD (Int.toNat i40) default))]) (.reg [(4,.dat (.l 1 el52Cut (out++[(⟨(F11 (lines.getD (Int.toNat i40) default)).1⟩:l52Cut)])))]))) (.reg [(1,.bnd)])))) i.2.1 i.2.2)))) (.seq .no .no)))) Tryz.func59 (fun (hp:lines.length≤16∧(∀ k:Nat,(lines.getD k default).size≤1048576))=>have hpre0:=hp.1; have hpre1:=hp.2; kn lines fun _=>ai (bokr 1 el52Cut ([]:List l52Cut) fun _=>rfl) (kn lines fun _=>kn ([]:List l52Cut) fun _=>ai (en59_0 lines (by refine ⟨?_,?_⟩ <;> (simp only [lens,ib] at*<;> omega))) (fun (i0:Nat×(List l52Cut×Int)) (hi0:lJ59_0 lines i0)=>(fun (m0:Nat) (out:List l52Cut) (i40:Int) (hh0:lH59_0 lines i0 m0 out i40)=>have hI0:=hh0.1; have hl0:=hh0.2.1; have _:=hh0.2.2.1; have _:=hh0.2.2.2; ifd (i40<(lines.length:Int)) (fun h2 _=>ai (by omega:ib i40 lines) (kc11 (lines.getD (Int.toNat i40) default) (by exact hpre1 _) (fun gv3 gv4=>ai (appr 1 el52Cut out [(⟨(F11 (lines.getD (Int.toNat i40) default)).1⟩:l52Cut)] fun _=>rfl) (ai (by (try simp only [lens]); omega:(out++[(⟨(F11 (lines.getD (Int.toNat i40) default)).1⟩:l52Cut)]).length*24≤140737488355328) (ai (iok (i40+1) (by omega)) (bk59_0 lines i0 m0 (out++[(⟨(F11 (lines.getD (Int.toNat i40) default)).1⟩:l52Cut)]) (i40+1) hl0 (runL_next hI0 (condT h2 rfl)) (by refine ⟨?_,?_,?_⟩ <;> (simp only [lens,ib] at*<;> omega)))))))) (fun h2 _=>have hD0_5:lX59_0 lines=Lp.done (out,i40):=runL_done hI0 (condF h2 rfl); fi59 lines out (finD hD0_5 rfl))) (i0.1-1) i0.2.1 i0.2.2 (un59_0 lines i0 hi0)))) (by kernel_rfl)
def F117 (c:l52Cut) (k:Int):ByteArray :=
 bif (decide (k<(c.w.length:Int))) then (c.w.getD (Int.toNat k) default) else (⟨#[]⟩:ByteArray)
def S117 (c:l52Cut) (k:Int):Spec:=⟨[.r (.g (el52Cut c)),.r (.c (.v (vI k)))],.v (.string (F117 c k)),0≤k⟩
theorem ok117 (c:l52Cut) (k:Int):(S117 c k).ok Tryz.prog 117 :=
 fnG_ok mixed (fn:=Tryz.f117) (ct:=.seq .no (.seq (.seq .no (.cond (.seq .no .no) .no)) (.seq .no .no))) Tryz.func117 (fun (hpre0:0≤k)=>ifd (k<(c.w.length:Int)) (fun h1 _=>ai (by omega:ib k c.w) (fiS (c.w.getD (Int.toNat k) default) (F117 c k) (condT h1 rfl))) (fun h1 _=>fiS w13_ (F117 c k) (condF h1 rfl))) (by kernel_rfl)
theorem as59 (lines:List ByteArray):F59 lines=(lines.map (fun l=>(⟨(F11 l).1⟩:l52Cut))):=by
 unfold F59
 have:=fold_loop0 lines (fun (s:List l52Cut) l=>s++[(⟨(F11 l).1⟩:l52Cut)]) (fun s i=>(s,i)) (F59_s0 lines) (fun i s hi=>by
  simp only [F59_s0,ltD hi,cond_true,nn]; rfl) (fun s=>by simp only [F59_s0,geD,cond_false]) (fun r=>r) (fun (out,i40)=>out) []
 refine this.trans ?_
 rw [foldl_map',List.nil_append]
theorem at_sz1 {c:l52Cut} (h:∀ j:Nat,(c.w.getD j default).size≤1048576) (k:Int):(F117 c k).size≤1048576:=by
 unfold F117
 cases decide (k<(c.w.length:Int)) with
 | true=>exact h _
 | false=>exact Nat.zero_le _
theorem at_sz (all:List l52Cut) (h:∀ k j:Nat,((all.getD k default).w.getD j default).size≤1048576) (i:Nat) (k:Int):(F117 (all.getD i default) k).size≤1048576:=at_sz1 (h i) k
def T59 (R:List l52Cut) (lines:List ByteArray):Spec:=⟨(S59 R lines).args,(S59 R lines).res,lines.length≤16∧(∀ k:Nat,(lines.getD k default).size≤1048576)⟩
theorem oa59 (lines:List ByteArray):(T59 (lines.map (fun l=>(⟨(F11 l).1⟩:l52Cut))) lines).ok Tryz.prog 59:=by
 intro hp; have h:=ok59 lines hp; rw [as59 lines] at h; exact h
theorem kc117 (c:l52Cut) (k:Int) {K_:Prop} (p0_:0≤k) (k_:K_):(0≤k)∧(Imps (el52Cut c) (el52Cut c))∧(Imp (.v (vI k)) (.v (vI k)))∧K_:=⟨p0_,Imps.refl _,Imp.refl _,k_⟩
abbrev kh117 (c:l52Cut) (k:Int):Hint true Tryz.prog:=.call 117 (S117 c k) (ok117 c k) none
theorem kg117 {K_:Prop} (c_ b_:Bool) (c:l52Cut) (k:Int) (p_:c_=b_→0≤k) (k_:K_):(c_=b_→0≤k)∧(c_=b_→Imps (el52Cut c) (el52Cut c))∧(c_=b_→Imp (.v (vI k)) (.v (vI k)))∧K_:=⟨p_,fun _=>Imps.refl _,fun _=>Imp.refl _,k_⟩
def F60_s0 (all:List l52Cut):Int→Lp Int Bool:=fun i40 =>
 bif (decide (i40<(all.length:Int))) then (bif (bif ((F117 (all.getD (Int.toNat i40) default) 0).toList==(⟨#[117,115,101,114]⟩:ByteArray).toList) then ((F117 (all.getD (Int.toNat i40) default) 2).toList==(⟨#[97,108,108]⟩:ByteArray).toList) else false) then (.ret true) else (.next (i40+1))) else (.done i40)
def F60 (all:List l52Cut):Bool :=
 (runL (F60_s0 all) ((Int.toNat ((all.length:Int)-0))+1) 0).fin (fun r=>r) (fun i40=>false)
abbrev lN60_0 (all:List l52Cut):Nat×Int:=(((Int.toNat ((all.length:Int)-0))+1),0)
abbrev lI60_0 (all:List l52Cut) (m39:Nat) (i40:Int):Prop:=Int.toNat ((all.length:Int)-i40)<m39∧(0:Int)≤i40
abbrev lX60_0 (all:List l52Cut):Lp Int Bool:=LpX (F60_s0 all) (lN60_0 all)
abbrev lJ60_0 (all:List l52Cut) (i:Nat×Int):Prop:=LpJ (F60_s0 all) (lN60_0 all) i (lI60_0 all i.1 i.2)
abbrev lH60_0 (all:List l52Cut) (i:Nat×Int) (m39:Nat) (i40:Int):Prop:=LpH (F60_s0 all) (lN60_0 all) i m39 i40 (lI60_0 all (m39+1) i40)
abbrev lE60_0 (all:List l52Cut) (i40:Int) (i40_:Int) (K39:Prop):Prop:=((.int .i64 i40:Value)=.int .i64 i40_)∧(Im (.l 1 el52Cut all))∧K39
theorem un60_0 (all:List l52Cut) (i:Nat×Int) (h:lJ60_0 all i):lH60_0 all i (i.1-1) i.2:=⟨hd1 h.1 h.2.1,hd3 h.2.1,hd2 h.2.1,h.2.2⟩
theorem bk60_0 (all:List l52Cut) (i:Nat×Int) (m39:Nat) (i40:Int) (hl:m39<i.1) (e:runL (F60_s0 all) m39 i40=lX60_0 all) (h:lI60_0 all m39 i40):∃ j:Nat×Int,lE60_0 all i40 j.2 (lJ60_0 all j∧j.1<i.1):=⟨(m39,i40),rfl,Imp.refl _,⟨e,h⟩,hl⟩
theorem en60_0 (all:List l52Cut) (h:(0:Int)≤0):lE60_0 all 0 0 (lJ60_0 all (lN60_0 all)):=⟨rfl,Imp.refl _,rfl,Nat.lt_succ_self _,h⟩
def S60 (all:List l52Cut):Spec:=⟨[.r (.c (.l 1 el52Cut all))],.v (.bool (F60 all)),True⟩
theorem ok60 (all:List l52Cut):(S60 all).ok Tryz.prog 60 :=
 fnG_ok mixed (fn:=Tryz.f60) (ct:=.seqk [(0,0)] .no (.seq (.seqk [(0,0)] .no (.blk (.loop (ι:=Nat×Int) (fun i=>(fun (i40:Int)=>(⟨[(0,some (.h 0 0)),(3,some (.v (vI i40)))],[(0,some (.shr none (.l 1 el52Cut all)))],1⟩:St)) i.2) (lJ60_0 all) (fun i=>i.1) (lN60_0 all) (fun i=>(fun (i40:Int)=>(.seq (.seq .no (.cond .no .no)) (.seq (.blk (.seq (.reg [(4,kh117 (all.getD (Int.toNat i40) default) 0),(11,kh117 (all.getD (Int.toNat i40) default) 2)]) (.cond (.seq .no .no) .no))) (.reg [(1,.bnd)])))) i.2)))) (.seq .no .no))) Tryz.func60 (fun (_:True)=>kn all fun _=>kn all fun _=>ai (en60_0 all (by omega)) (fun (i0:Nat×Int) (hi0:lJ60_0 all i0)=>(fun (m0:Nat) (i40:Int) (hh0:lH60_0 all i0 m0 i40)=>have hI0:=hh0.1; have hl0:=hh0.2.1; have _:=hh0.2.2.1; have _:=hh0.2.2.2; ifd (i40<(all.length:Int)) (fun h2 _=>ai (by omega:ib i40 all) (kc117 (all.getD (Int.toNat i40) default) 0 (by omega) (ai (fun k3:((F117 (all.getD (Int.toNat i40) default) 0).toList==w10_.toList)=true=>(by omega:ib i40 all)) (kg117 ((F117 (all.getD (Int.toNat i40) default) 0).toList==w10_.toList) true (all.getD (Int.toNat i40) default) 2 (fun k4=>(by omega)) (ifb (bif ((F117 (all.getD (Int.toNat i40) default) 0).toList==w10_.toList) then ((F117 (all.getD (Int.toNat i40) default) 2).toList==w11_.toList) else false) (fun h5=>have _:((F117 (all.getD (Int.toNat i40) default) 0).toList==w10_.toList)=true:=(andT1 h5); have _:((F117 (all.getD (Int.toNat i40) default) 2).toList==w11_.toList)=true:=(andT2 h5); fiB true (F60 all) (finR (runL_ret hI0 (condT h2 (condT h5 rfl))) rfl)) (fun h5=>ai (iok (i40+1) (by omega)) (bk60_0 all i0 m0 (i40+1) hl0 (runL_next hI0 (condT h2 (condF h5 rfl))) (by refine ⟨?_,?_⟩ <;> omega)))))))) (fun h2 _=>have hD0_6:lX60_0 all=Lp.done i40:=runL_done hI0 (condF h2 rfl); fiB false (F60 all) (finD hD0_6 rfl))) (i0.1-1) i0.2 (un60_0 all i0 hi0))) (by kernel_rfl)
def F118_s0 (all:List l52Cut) (name:ByteArray):(Int×Int)→Lp (Int×Int) Int:=fun (n,i40) =>
 bif (decide (i40<(all.length:Int))) then (bif (bif ((F117 (all.getD (Int.toNat i40) default) 0).toList==(⟨#[114,117,108,101]⟩:ByteArray).toList) then ((F117 (all.getD (Int.toNat i40) default) 1).toList==name.toList) else false) then (.next ((n+1),(i40+1))) else (.next (n,(i40+1)))) else (.done (n,i40))
def F118 (all:List l52Cut) (name:ByteArray):Int :=
 (runL (F118_s0 all name) ((Int.toNat ((all.length:Int)-0))+1) (0,0)).fin (fun r=>r) (fun (n,i40)=>n)
abbrev lN118_0 (all:List l52Cut):Nat×(Int×Int):=(((Int.toNat ((all.length:Int)-0))+1),(0,0))
abbrev lI118_0 (all:List l52Cut) (m39:Nat) (n:Int) (i40:Int):Prop:=Int.toNat ((all.length:Int)-i40)<m39∧(0:Int)≤n∧(n:Int)≤i40∧(0:Int)≤n∧(0:Int)≤i40
abbrev lX118_0 (all:List l52Cut) (name:ByteArray):Lp (Int×Int) Int:=LpX (F118_s0 all name) (lN118_0 all)
abbrev lJ118_0 (all:List l52Cut) (name:ByteArray) (i:Nat×(Int×Int)):Prop:=LpJ (F118_s0 all name) (lN118_0 all) i (lI118_0 all i.1 i.2.1 i.2.2)
abbrev lH118_0 (all:List l52Cut) (name:ByteArray) (i:Nat×(Int×Int)) (m39:Nat) (n:Int) (i40:Int):Prop:=LpH (F118_s0 all name) (lN118_0 all) i m39 (n,i40) (lI118_0 all (m39+1) n i40)
abbrev lE118_0 (all:List l52Cut) (name:ByteArray) (n:Int) (i40:Int) (n_:Int) (i40_:Int) (K39:Prop):Prop:=(Rf (.string name))∧((.int .i64 n:Value)=.int .i64 n_)∧((.int .i64 i40:Value)=.int .i64 i40_)∧(Im (.l 1 el52Cut all))∧K39
theorem un118_0 (all:List l52Cut) (name:ByteArray) (i:Nat×(Int×Int)) (h:lJ118_0 all name i):lH118_0 all name i (i.1-1) i.2.1 i.2.2:=⟨hd1 h.1 h.2.1,hd3 h.2.1,hd2 h.2.1,h.2.2⟩
theorem bk118_0 (all:List l52Cut) (name:ByteArray) (i:Nat×(Int×Int)) (m39:Nat) (n:Int) (i40:Int) (hl:m39<i.1) (e:runL (F118_s0 all name) m39 (n,i40)=lX118_0 all name) (h:lI118_0 all m39 n i40):∃ j:Nat×(Int×Int),lE118_0 all name n i40 j.2.1 j.2.2 (lJ118_0 all name j∧j.1<i.1):=⟨(m39,(n,i40)),rfl,rfl,rfl,Imp.refl _,⟨e,h⟩,hl⟩
theorem en118_0 (all:List l52Cut) (name:ByteArray) (h:(0:Int)≤0∧(0:Int)≤0∧(0:Int)≤0∧(0:Int)≤0):lE118_0 all name 0 0 0 0 (lJ118_0 all name (lN118_0 all)):=⟨rfl,rfl,rfl,Imp.refl _,rfl,Nat.lt_succ_self _,h⟩
def S118 (all:List l52Cut) (name:ByteArray):Spec:=⟨[.r (.c (.l 1 el52Cut all)),.r (.c (.v (.string name)))],.v (vI (F118 all name)),True⟩
theorem ok118 (all:List l52Cut) (name:ByteArray):(S118 all name).ok Tryz.prog 118 :=
 fnG_ok mixed (fn:=Tryz.f118) (ct:=.seqk [(0,0)] .no (.seq .no (.seq (.seqk [(0,0)] .no (.blk (.loop (ι:=Nat×(Int×Int)) (fun i=>(fun (n:Int) (i40:Int)=>(⟨[(0,some (.h 0 0)),(1,some (.v (.string name))),(5,some (.v (vI n))),(6,some (.v (vI i40)))],[(0,some (.shr none (.l 1 el52Cut all)))],1⟩:St)) i.2.1 i.2.2) (lJ118_0 all name) (fun i=>i.1) (lN118_0 all) (fun i=>(fun (n:Int) (i40:Int)=>(.seq (.seq .no (.cond .no .no)) (.seq (.blk (.seq (.reg [(4,kh117 (all.getD (Int.toNat i40) default) 0),(11,kh117 (all.getD (Int.toNat i40) default) 1)]) (.cond (.reg [(1,.bnd)]) .no))) (.reg [(1,.bnd)])))) i.2.1 i.2.2)))) (.seq .no .no)))) Tryz.func118 (fun (_:True)=>kn all fun _=>kn all fun _=>ai (en118_0 all name (by refine ⟨?_,?_,?_,?_⟩ <;> omega)) (fun (i0:Nat×(Int×Int)) (hi0:lJ118_0 all name i0)=>(fun (m0:Nat) (n:Int) (i40:Int) (hh0:lH118_0 all name i0 m0 n i40)=>have hI0:=hh0.1; have hl0:=hh0.2.1; have _:=hh0.2.2.1; have _:=hh0.2.2.2; ifd (i40<(all.length:Int)) (fun h2 _=>ai (by omega:ib i40 all) (kc117 (all.getD (Int.toNat i40) default) 0 (by omega) (ai (fun k3:((F117 (all.getD (Int.toNat i40) default) 0).toList==w9_.toList)=true=>(by omega:ib i40 all)) (kg117 ((F117 (all.getD (Int.toNat i40) default) 0).toList==w9_.toList) true (all.getD (Int.toNat i40) default) 1 (fun k4=>(by omega)) (ifb (bif ((F117 (all.getD (Int.toNat i40) default) 0).toList==w9_.toList) then ((F117 (all.getD (Int.toNat i40) default) 1).toList==name.toList) else false) (fun h5=>have _:((F117 (all.getD (Int.toNat i40) default) 0).toList==w9_.toList)=true:=(andT1 h5); have _:=(andT2 h5); ai (iok (n+1) (by omega)) (ai (iok (i40+1) (by omega)) (bk118_0 all name i0 m0 (n+1) (i40+1) hl0 (runL_next hI0 (condT h2 (condT h5 rfl))) (by refine ⟨?_,?_,?_,?_,?_⟩ <;> omega)))) (fun h5=>ai (iok (i40+1) (by omega)) (bk118_0 all name i0 m0 n (i40+1) hl0 (runL_next hI0 (condT h2 (condF h5 rfl))) (by refine ⟨?_,?_,?_,?_,?_⟩ <;> omega)))))))) (fun h2 _=>have hD0_6:lX118_0 all name=Lp.done (n,i40):=runL_done hI0 (condF h2 rfl); fiI n (F118 all name) (finD hD0_6 rfl))) (i0.1-1) i0.2.1 i0.2.2 (un118_0 all name i0 hi0))) (by kernel_rfl)
theorem kg118 {K_:Prop} (c_ b_:Bool) (all:List l52Cut) (name:ByteArray) (k_:K_):(c_=b_→True)∧(c_=b_→Imp (.l 1 el52Cut all) (.l 1 el52Cut all))∧(c_=b_→Imp (.v (.string name)) (.v (.string name)))∧K_:=⟨fun _=>trivial,fun _=>Imp.refl _,fun _=>Imp.refl _,k_⟩
abbrev kh118 (all:List l52Cut) (name:ByteArray):Hint true Tryz.prog:=.call 118 (S118 all name) (ok118 all name) none
def F61_s0 (all:List l52Cut):Int→Lp Int Bool:=fun i40 =>
 bif (decide (i40<(all.length:Int))) then (bif (bif (bif ((F117 (all.getD (Int.toNat i40) default) 0).toList==(⟨#[112,111,114,116]⟩:ByteArray).toList) then (!((F117 (all.getD (Int.toNat i40) default) 4).toList==(⟨#[]⟩:ByteArray).toList)) else false) then ((F118 all (F117 (all.getD (Int.toNat i40) default) 4))==0) else false) then (.ret false) else (bif (bif ((F117 (all.getD (Int.toNat i40) default) 0).toList==(⟨#[114,117,108,101]⟩:ByteArray).toList) then decide ((F118 all (F117 (all.getD (Int.toNat i40) default) 1))>12) else false) then (.ret false) else (.next (i40+1)))) else (.done i40)
def F61 (all:List l52Cut):Bool :=
 (runL (F61_s0 all) ((Int.toNat ((all.length:Int)-0))+1) 0).fin (fun r=>r) (fun i40=>true)
abbrev lN61_0 (all:List l52Cut):Nat×Int:=(((Int.toNat ((all.length:Int)-0))+1),0)
abbrev lI61_0 (all:List l52Cut) (m39:Nat) (i40:Int):Prop:=Int.toNat ((all.length:Int)-i40)<m39∧(0:Int)≤i40
abbrev lX61_0 (all:List l52Cut):Lp Int Bool:=LpX (F61_s0 all) (lN61_0 all)
abbrev lJ61_0 (all:List l52Cut) (i:Nat×Int):Prop:=LpJ (F61_s0 all) (lN61_0 all) i (lI61_0 all i.1 i.2)
abbrev lH61_0 (all:List l52Cut) (i:Nat×Int) (m39:Nat) (i40:Int):Prop:=LpH (F61_s0 all) (lN61_0 all) i m39 i40 (lI61_0 all (m39+1) i40)
abbrev lE61_0 (all:List l52Cut) (i40:Int) (i40_:Int) (K39:Prop):Prop:=((.int .i64 i40:Value)=.int .i64 i40_)∧(Im (.l 1 el52Cut all))∧K39
theorem un61_0 (all:List l52Cut) (i:Nat×Int) (h:lJ61_0 all i):lH61_0 all i (i.1-1) i.2:=⟨hd1 h.1 h.2.1,hd3 h.2.1,hd2 h.2.1,h.2.2⟩
theorem bk61_0 (all:List l52Cut) (i:Nat×Int) (m39:Nat) (i40:Int) (hl:m39<i.1) (e:runL (F61_s0 all) m39 i40=lX61_0 all) (h:lI61_0 all m39 i40):∃ j:Nat×Int,lE61_0 all i40 j.2 (lJ61_0 all j∧j.1<i.1):=⟨(m39,i40),rfl,Imp.refl _,⟨e,h⟩,hl⟩
theorem en61_0 (all:List l52Cut) (h:(0:Int)≤0):lE61_0 all 0 0 (lJ61_0 all (lN61_0 all)):=⟨rfl,Imp.refl _,rfl,Nat.lt_succ_self _,h⟩
def S61 (all:List l52Cut):Spec:=⟨[.r (.c (.l 1 el52Cut all))],.v (.bool (F61 all)),True⟩
abbrev q61_1 (all:List l52Cut) (i40:Int):=(all.getD (Int.toNat i40) default)
theorem ok61 (all:List l52Cut):(S61 all).ok Tryz.prog 61 :=
 fnG_ok mixed (fn:=Tryz.f61) (ct:=.seqk [(0,0)] .no (.seq (.seqk [(0,0)] .no (.blk (.loop (ι:=Nat×Int) (fun i=>(fun (i40:Int)=>(⟨[(0,some (.h 0 0)),(3,some (.v (vI i40)))],[(0,some (.shr none (.l 1 el52Cut all)))],1⟩:St)) i.2) (lJ61_0 all) (fun i=>i.1) (lN61_0 all) (fun i=>(fun (i40:Int)=>(.seq (.seq .no (.cond .no .no)) (.seq (.blk (.seq (.seq (.reg [(4,kh117 (q61_1 all i40) 0),(11,kh117 (q61_1 all i40) 4),(20,kh117 (q61_1 all i40) 4),(21,kh118 all (F117 (q61_1 all i40) 4))]) (.cond (.seq .no .no) .no)) (.seq (.reg [(4,kh117 (q61_1 all i40) 0),(12,kh117 (q61_1 all i40) 1),(13,kh118 all (F117 (q61_1 all i40) 1))]) (.cond (.seq .no .no) .no)))) (.reg [(1,.bnd)])))) i.2)))) (.seq .no .no))) Tryz.func61 (fun (_:True)=>kn all fun _=>kn all fun _=>ai (en61_0 all (by omega)) (fun (i0:Nat×Int) (hi0:lJ61_0 all i0)=>(fun (m0:Nat) (i40:Int) (hh0:lH61_0 all i0 m0 i40)=>have hI0:=hh0.1; have hl0:=hh0.2.1; have _:=hh0.2.2.1; have _:=hh0.2.2.2; ifd (i40<(all.length:Int)) (fun h2 _=>ai (by omega:ib i40 all) (kc117 (q61_1 all i40) 0 (by omega) (ai (fun k3:((F117 (q61_1 all i40) 0).toList==w7_.toList)=true=>(by omega:ib i40 all)) (kg117 ((F117 (q61_1 all i40) 0).toList==w7_.toList) true (q61_1 all i40) 4 (fun k4=>(by omega)) (ai (fun k5:(bif ((F117 (q61_1 all i40) 0).toList==w7_.toList) then (!((F117 (q61_1 all i40) 4).toList==w13_.toList)) else false)=true=>have _:((F117 (q61_1 all i40) 0).toList==w7_.toList)=true:=(andT1 k5); have _:(!((F117 (q61_1 all i40) 4).toList==w13_.toList))=true:=(andT2 k5); (by omega:ib i40 all)) (kg117 (bif ((F117 (q61_1 all i40) 0).toList==w7_.toList) then (!((F117 (q61_1 all i40) 4).toList==w13_.toList)) else false) true (q61_1 all i40) 4 (fun k6=>have _:((F117 (q61_1 all i40) 0).toList==w7_.toList)=true:=(andT1 k6); have _:(!((F117 (q61_1 all i40) 4).toList==w13_.toList))=true:=(andT2 k6); (by omega)) (kg118 (bif ((F117 (q61_1 all i40) 0).toList==w7_.toList) then (!((F117 (q61_1 all i40) 4).toList==w13_.toList)) else false) true all (F117 (q61_1 all i40) 4) (ifb (bif (bif ((F117 (q61_1 all i40) 0).toList==w7_.toList) then (!((F117 (q61_1 all i40) 4).toList==w13_.toList)) else false) then ((F118 all (F117 (q61_1 all i40) 4))==0) else false) (fun h8=>have _:((F117 (q61_1 all i40) 0).toList==w7_.toList)=true:=(andT1 (andT1 h8)); have _:(!((F117 (q61_1 all i40) 4).toList==w13_.toList))=true:=(andT2 (andT1 h8)); have _:=eq_of_beq (andT2 h8); fiB false (F61 all) (finR (runL_ret hI0 (condT h2 (condT h8 rfl))) rfl)) (fun h8=>ai (by omega:ib i40 all) (kc117 (q61_1 all i40) 0 (by omega) (ai (fun k9:((F117 (q61_1 all i40) 0).toList==w9_.toList)=true=>(by omega:ib i40 all)) (kg117 ((F117 (q61_1 all i40) 0).toList==w9_.toList) true (q61_1 all i40) 1 (fun k10=>(by omega)) (kg118 ((F117 (q61_1 all i40) 0).toList==w9_.toList) true all (F117 (q61_1 all i40) 1) (ifb (bif ((F117 (q61_1 all i40) 0).toList==w9_.toList) then decide ((F118 all (F117 (q61_1 all i40) 1))>12) else false) (fun h12=>have _:((F117 (q61_1 all i40) 0).toList==w9_.toList)=true:=(andT1 h12); have _:=of_decide_eq_true (andT2 h12); fiB false (F61 all) (finR (runL_ret hI0 (condT h2 (condF h8 (condT h12 rfl)))) rfl)) (fun h12=>ai (iok (i40+1) (by omega)) (bk61_0 all i0 m0 (i40+1) hl0 (runL_next hI0 (condT h2 (condF h8 (condF h12 rfl)))) (by refine ⟨?_,?_⟩ <;> omega))))))))))))))))) (fun h2 _=>have hD0_13:lX61_0 all=Lp.done i40:=runL_done hI0 (condF h2 rfl); fiB true (F61 all) (finD hD0_13 rfl))) (i0.1-1) i0.2 (un61_0 all i0 hi0))) (by kernel_rfl)
def F62_s1 (all:List l52Cut) (i40:Int):Int→Lp Int Bool:=fun k =>
 bif (decide (k<i40)) then (bif (bif (!((F117 (all.getD (Int.toNat i40) default) 0).toList==(⟨#[112,111,114,116]⟩:ByteArray).toList)) then true else (!((F117 (all.getD (Int.toNat k) default) 0).toList==(⟨#[112,111,114,116]⟩:ByteArray).toList))) then (.next (k+1)) else (bif (bif decide ((F119 (F117 (all.getD (Int.toNat i40) default) 2)).1<(IntKind.i64.wrap ((F119 (F117 (all.getD (Int.toNat k) default) 2)).1+(F119 (F117 (all.getD (Int.toNat k) default) 2)).2))) then decide ((F119 (F117 (all.getD (Int.toNat k) default) 2)).1<(IntKind.i64.wrap ((F119 (F117 (all.getD (Int.toNat i40) default) 2)).1+(F119 (F117 (all.getD (Int.toNat i40) default) 2)).2))) else false) then (.ret false) else (.next (k+1)))) else (.done k)
def F62_s0 (all:List l52Cut):Int→Lp Int Bool:=fun i40 =>
 bif (decide (i40<(all.length:Int))) then ((runL (F62_s1 all i40) ((Int.toNat (i40-0))+1) 0).fin Lp.ret (fun k=>.next (i40+1))) else (.done i40)
def F62 (all:List l52Cut):Bool :=
 (runL (F62_s0 all) ((Int.toNat ((all.length:Int)-0))+1) 0).fin (fun r=>r) (fun i40=>true)
abbrev lN62_1 (i40:Int):Nat×Int:=(((Int.toNat (i40-0))+1),0)
abbrev lI62_1 (i40:Int) (m39:Nat) (k:Int):Prop:=Int.toNat (i40-k)<m39∧(0:Int)≤k
abbrev lX62_1 (all:List l52Cut) (i40:Int):Lp Int Bool:=LpX (F62_s1 all i40) (lN62_1 i40)
abbrev lJ62_1 (all:List l52Cut) (i40:Int) (i:Nat×Int):Prop:=LpJ (F62_s1 all i40) (lN62_1 i40) i (lI62_1 i40 i.1 i.2)
abbrev lH62_1 (all:List l52Cut) (i40:Int) (i:Nat×Int) (m39:Nat) (k:Int):Prop:=LpH (F62_s1 all i40) (lN62_1 i40) i m39 k (lI62_1 i40 (m39+1) k)
abbrev lE62_1 (all:List l52Cut) (i40:Int) (k:Int) (k_:Int) (K39:Prop):Prop:=(Rf (.int .i64 i40))∧((.int .i64 k:Value)=.int .i64 k_)∧(Im (.l 1 el52Cut all))∧K39
theorem un62_1 (all:List l52Cut) (i40:Int) (i:Nat×Int) (h:lJ62_1 all i40 i):lH62_1 all i40 i (i.1-1) i.2:=⟨hd1 h.1 h.2.1,hd3 h.2.1,hd2 h.2.1,h.2.2⟩
theorem bk62_1 (all:List l52Cut) (i40:Int) (i:Nat×Int) (m39:Nat) (k:Int) (hl:m39<i.1) (e:runL (F62_s1 all i40) m39 k=lX62_1 all i40) (h:lI62_1 i40 m39 k):∃ j:Nat×Int,lE62_1 all i40 k j.2 (lJ62_1 all i40 j∧j.1<i.1):=⟨(m39,k),rfl,rfl,Imp.refl _,⟨e,h⟩,hl⟩
theorem en62_1 (all:List l52Cut) (i40:Int) (h:(0:Int)≤0):lE62_1 all i40 0 0 (lJ62_1 all i40 (lN62_1 i40)):=⟨rfl,rfl,Imp.refl _,rfl,Nat.lt_succ_self _,h⟩
abbrev lN62_0 (all:List l52Cut):Nat×Int:=(((Int.toNat ((all.length:Int)-0))+1),0)
abbrev lI62_0 (all:List l52Cut) (m39:Nat) (i40:Int):Prop:=Int.toNat ((all.length:Int)-i40)<m39∧(0:Int)≤i40
abbrev lX62_0 (all:List l52Cut):Lp Int Bool:=LpX (F62_s0 all) (lN62_0 all)
abbrev lJ62_0 (all:List l52Cut) (i:Nat×Int):Prop:=LpJ (F62_s0 all) (lN62_0 all) i (lI62_0 all i.1 i.2)
abbrev lH62_0 (all:List l52Cut) (i:Nat×Int) (m39:Nat) (i40:Int):Prop:=LpH (F62_s0 all) (lN62_0 all) i m39 i40 (lI62_0 all (m39+1) i40)
abbrev lE62_0 (all:List l52Cut) (i40:Int) (i40_:Int) (K39:Prop):Prop:=((.int .i64 i40:Value)=.int .i64 i40_)∧(Im (.l 1 el52Cut all))∧K39
theorem un62_0 (all:List l52Cut) (i:Nat×Int) (h:lJ62_0 all i):lH62_0 all i (i.1-1) i.2:=⟨hd1 h.1 h.2.1,hd3 h.2.1,hd2 h.2.1,h.2.2⟩
theorem bk62_0 (all:List l52Cut) (i:Nat×Int) (m39:Nat) (i40:Int) (hl:m39<i.1) (e:runL (F62_s0 all) m39 i40=lX62_0 all) (h:lI62_0 all m39 i40):∃ j:Nat×Int,lE62_0 all i40 j.2 (lJ62_0 all j∧j.1<i.1):=⟨(m39,i40),rfl,Imp.refl _,⟨e,h⟩,hl⟩
theorem en62_0 (all:List l52Cut) (h:(0:Int)≤0):lE62_0 all 0 0 (lJ62_0 all (lN62_0 all)):=⟨rfl,Imp.refl _,rfl,Nat.lt_succ_self _,h⟩
def S62 (all:List l52Cut):Spec:=⟨[.r (.c (.l 1 el52Cut all))],.v (.bool (F62 all)),(∀ k j:Nat,((all.getD k default).w.getD j default).size≤1048576)⟩
abbrev q62_1 (all:List l52Cut) (i40:Int):=(all.getD (Int.toNat i40) default)
abbrev q62_2 (all:List l52Cut) (k:Int):=(all.getD (Int.toNat k) default)
theorem ok62 (all:List l52Cut):(S62 all).ok Tryz.prog 62 :=
 fnG_ok mixed (fn:=Tryz.f62) (ct:=.seqk [(0,0)] .no (.seq (.seqk [(0,0)] .no (.blk (.loop (ι:=Nat×Int) (fun i=>(fun (i40:Int)=>(⟨[(0,some (.h 0 0)),(3,some (.v (vI i40)))],[(0,some (.shr none (.l 1 el52Cut all)))],1⟩:St)) i.2) (lJ62_0 all) (fun i=>i.1) (lN62_0 all) (fun i=>(fun (i40:Int)=>(.seq (.seq .no (.cond .no .no)) (.seq (.blk (.seqk [(0,0)] .no (.blk (.loop (ι:=Nat×Int) (fun i=>(fun (k:Int)=>(⟨[(0,some (.h 0 0)),(3,some (.v (vI i40))),(4,some (.v (vI k)))],[(0,some (.shr none (.l 1 el52Cut all)))],1⟩:St)) i.2) (lJ62_1 all i40) (fun i=>i.1) (lN62_1 i40) (fun i=>(fun (k:Int)=>(.seq (.seq .no (.cond .no .no)) (.seq (.blk (.seq (.seq (.reg [(4,kh117 (q62_1 all i40) 0),(11,kh117 (q62_2 all k) 0)]) (.cond .no .no)) (.seq (.reg [(4,kh117 (q62_1 all i40) 2),(5,kh119 (F117 (q62_1 all i40) 2))]) (.seq (.reg [(4,kh117 (q62_2 all k) 2),(5,kh119 (F117 (q62_2 all k) 2))]) (.seq .no (.cond (.seq .no .no) .no)))))) (.reg [(1,.bnd)])))) i.2))))) (.reg [(1,.bnd)])))) i.2)))) (.seq .no .no))) Tryz.func62 (fun (hpre0:∀ k j:Nat,((all.getD k default).w.getD j default).size≤1048576)=>kn all fun _=>kn all fun _=>ai (en62_0 all (by omega)) (fun (i0:Nat×Int) (hi0:lJ62_0 all i0)=>(fun (m0:Nat) (i40:Int) (hh0:lH62_0 all i0 m0 i40)=>have hI0:=hh0.1; have hl0:=hh0.2.1; have _:=hh0.2.2.1; have _:=hh0.2.2.2; ifd (i40<(all.length:Int)) (fun h2 _=>kn all fun _=>ai (en62_1 all i40 (by omega)) (fun (i1:Nat×Int) (hi1:lJ62_1 all i40 i1)=>(fun (m1:Nat) (k:Int) (hh1:lH62_1 all i40 i1 m1 k)=>have hI1:=hh1.1; have hl1:=hh1.2.1; have _:=hh1.2.2.1; have _:=hh1.2.2.2; ifd (k<i40) (fun h4 _=>ai (by omega:ib i40 all) (kc117 (q62_1 all i40) 0 (by omega) (ai (fun k5:(!((F117 (q62_1 all i40) 0).toList==w7_.toList))=false=>(by omega:ib k all)) (kg117 (!((F117 (q62_1 all i40) 0).toList==w7_.toList)) false (q62_2 all k) 0 (fun k6=>(by omega)) (ifb (bif (!((F117 (q62_1 all i40) 0).toList==w7_.toList)) then true else (!((F117 (q62_2 all k) 0).toList==w7_.toList))) (fun h7=>ai (iok (k+1) (by omega)) (bk62_1 all i40 i1 m1 (k+1) hl1 (runL_next hI1 (condT h4 (condT h7 rfl))) (by refine ⟨?_,?_⟩ <;> omega))) (fun h7=>have _:(!((F117 (q62_1 all i40) 0).toList==w7_.toList))=false:=(orF1 h7); have _:(!((F117 (q62_2 all k) 0).toList==w7_.toList))=false:=(orF2 h7); ai (by omega:ib i40 all) (kc117 (q62_1 all i40) 2 (by omega) (kc119 (F117 (q62_1 all i40) 2) (by exact at_sz all (by assumption) _ _) (ai (by omega:ib k all) (kc117 (q62_2 all k) 2 (by omega) (kc119 (F117 (q62_2 all k) 2) (by exact at_sz all (by assumption) _ _) (ifb (bif decide ((F119 (F117 (q62_1 all i40) 2)).1<(IntKind.i64.wrap ((F119 (F117 (q62_2 all k) 2)).1+(F119 (F117 (q62_2 all k) 2)).2))) then decide ((F119 (F117 (q62_2 all k) 2)).1<(IntKind.i64.wrap ((F119 (F117 (q62_1 all i40) 2)).1+(F119 (F117 (q62_1 all i40) 2)).2))) else false) (fun h8=>have _:=of_decide_eq_true (andT1 h8); have _:=of_decide_eq_true (andT2 h8); fiB false (F62 all) (finR (runL_ret hI0 (condT h2 (finR (runL_ret hI1 (condT h4 (condF h7 (condT h8 rfl)))) rfl))) rfl)) (fun h8=>ai (iok (k+1) (by omega)) (bk62_1 all i40 i1 m1 (k+1) hl1 (runL_next hI1 (condT h4 (condF h7 (condF h8 rfl)))) (by refine ⟨?_,?_⟩ <;> omega))))))))))))))) (fun h4 _=>have hD1_9:lX62_1 all i40=Lp.done k:=runL_done hI1 (condF h4 rfl); ai (iok (i40+1) (by omega)) (bk62_0 all i0 m0 (i40+1) hl0 (runL_next hI0 (condT h2 (finD hD1_9 rfl))) (by refine ⟨?_,?_⟩ <;> omega)))) (i1.1-1) i1.2 (un62_1 all i40 i1 hi1))) (fun h2 _=>have hD0_10:lX62_0 all=Lp.done i40:=runL_done hI0 (condF h2 rfl); fiB true (F62 all) (finD hD0_10 rfl))) (i0.1-1) i0.2 (un62_0 all i0 hi0))) (by kernel_rfl)
def F120_s0 (all:List l52Cut) (addr:Int):Int→Lp Int Bool:=fun i40 =>
 bif (decide (i40<(all.length:Int))) then (bif ((F117 (all.getD (Int.toNat i40) default) 0).toList==(⟨#[112,111,114,116]⟩:ByteArray).toList) then (bif (bif decide (addr>(F119 (F117 (all.getD (Int.toNat i40) default) 2)).1) then decide (addr<(IntKind.i64.wrap ((F119 (F117 (all.getD (Int.toNat i40) default) 2)).1+(F119 (F117 (all.getD (Int.toNat i40) default) 2)).2))) else false) then (.ret true) else (.next (i40+1))) else (.next (i40+1))) else (.done i40)
def F120 (all:List l52Cut) (addr:Int):Bool :=
 (runL (F120_s0 all addr) ((Int.toNat ((all.length:Int)-0))+1) 0).fin (fun r=>r) (fun i40=>false)
abbrev lN120_0 (all:List l52Cut):Nat×Int:=(((Int.toNat ((all.length:Int)-0))+1),0)
abbrev lI120_0 (all:List l52Cut) (m39:Nat) (i40:Int):Prop:=Int.toNat ((all.length:Int)-i40)<m39∧(0:Int)≤i40
abbrev lX120_0 (all:List l52Cut) (addr:Int):Lp Int Bool:=LpX (F120_s0 all addr) (lN120_0 all)
abbrev lJ120_0 (all:List l52Cut) (addr:Int) (i:Nat×Int):Prop:=LpJ (F120_s0 all addr) (lN120_0 all) i (lI120_0 all i.1 i.2)
abbrev lH120_0 (all:List l52Cut) (addr:Int) (i:Nat×Int) (m39:Nat) (i40:Int):Prop:=LpH (F120_s0 all addr) (lN120_0 all) i m39 i40 (lI120_0 all (m39+1) i40)
abbrev lE120_0 (all:List l52Cut) (addr:Int) (i40:Int) (i40_:Int) (K39:Prop):Prop:=(Rf (.int .i64 addr))∧((.int .i64 i40:Value)=.int .i64 i40_)∧(Im (.l 1 el52Cut all))∧K39
theorem un120_0 (all:List l52Cut) (addr:Int) (i:Nat×Int) (h:lJ120_0 all addr i):lH120_0 all addr i (i.1-1) i.2:=⟨hd1 h.1 h.2.1,hd3 h.2.1,hd2 h.2.1,h.2.2⟩
theorem bk120_0 (all:List l52Cut) (addr:Int) (i:Nat×Int) (m39:Nat) (i40:Int) (hl:m39<i.1) (e:runL (F120_s0 all addr) m39 i40=lX120_0 all addr) (h:lI120_0 all m39 i40):∃ j:Nat×Int,lE120_0 all addr i40 j.2 (lJ120_0 all addr j∧j.1<i.1):=⟨(m39,i40),rfl,rfl,Imp.refl _,⟨e,h⟩,hl⟩
theorem en120_0 (all:List l52Cut) (addr:Int) (h:(0:Int)≤0):lE120_0 all addr 0 0 (lJ120_0 all addr (lN120_0 all)):=⟨rfl,rfl,Imp.refl _,rfl,Nat.lt_succ_self _,h⟩
def S120 (all:List l52Cut) (addr:Int):Spec:=⟨[.r (.c (.l 1 el52Cut all)),.r (.c (.v (vI addr)))],.v (.bool (F120 all addr)),(∀ k j:Nat,((all.getD k default).w.getD j default).size≤1048576)⟩
theorem ok120 (all:List l52Cut) (addr:Int):(S120 all addr).ok Tryz.prog 120 :=
 fnG_ok mixed (fn:=Tryz.f120) (ct:=.seqk [(0,0)] .no (.seq (.seqk [(0,0)] .no (.blk (.loop (ι:=Nat×Int) (fun i=>(fun (i40:Int)=>(⟨[(0,some (.h 0 0)),(1,some (.v (vI addr))),(5,some (.v (vI i40)))],[(0,some (.shr none (.l 1 el52Cut all)))],1⟩:St)) i.2) (lJ120_0 all addr) (fun i=>i.1) (lN120_0 all) (fun i=>(fun (i40:Int)=>(.seq (.seq .no (.cond .no .no)) (.seq (.blk (.seq (.reg [(4,kh117 (all.getD (Int.toNat i40) default) 0)]) (.cond (.seq (.reg [(4,kh117 (all.getD (Int.toNat i40) default) 2),(5,kh119 (F117 (all.getD (Int.toNat i40) default) 2))]) (.seq .no (.cond (.seq .no .no) .no))) .no))) (.reg [(1,.bnd)])))) i.2)))) (.seq .no .no))) Tryz.func120 (fun (hpre0:∀ k j:Nat,((all.getD k default).w.getD j default).size≤1048576)=>kn all fun _=>kn all fun _=>ai (en120_0 all addr (by omega)) (fun (i0:Nat×Int) (hi0:lJ120_0 all addr i0)=>(fun (m0:Nat) (i40:Int) (hh0:lH120_0 all addr i0 m0 i40)=>have hI0:=hh0.1; have hl0:=hh0.2.1; have _:=hh0.2.2.1; have _:=hh0.2.2.2; ifd (i40<(all.length:Int)) (fun h2 _=>ai (by omega:ib i40 all) (kc117 (all.getD (Int.toNat i40) default) 0 (by omega) (ifb ((F117 (all.getD (Int.toNat i40) default) 0).toList==w7_.toList) (fun h3=>ai (by omega:ib i40 all) (kc117 (all.getD (Int.toNat i40) default) 2 (by omega) (kc119 (F117 (all.getD (Int.toNat i40) default) 2) (by exact at_sz all (by assumption) _ _) (ifb (bif decide (addr>(F119 (F117 (all.getD (Int.toNat i40) default) 2)).1) then decide (addr<(IntKind.i64.wrap ((F119 (F117 (all.getD (Int.toNat i40) default) 2)).1+(F119 (F117 (all.getD (Int.toNat i40) default) 2)).2))) else false) (fun h4=>have _:=of_decide_eq_true (andT1 h4); have _:=of_decide_eq_true (andT2 h4); fiB true (F120 all addr) (finR (runL_ret hI0 (condT h2 (condT h3 (condT h4 rfl)))) rfl)) (fun h4=>ai (iok (i40+1) (by omega)) (bk120_0 all addr i0 m0 (i40+1) hl0 (runL_next hI0 (condT h2 (condT h3 (condF h4 rfl)))) (by refine ⟨?_,?_⟩ <;> omega))))))) (fun h3=>ai (iok (i40+1) (by omega)) (bk120_0 all addr i0 m0 (i40+1) hl0 (runL_next hI0 (condT h2 (condF h3 rfl))) (by refine ⟨?_,?_⟩ <;> omega)))))) (fun h2 _=>have hD0_5:lX120_0 all addr=Lp.done i40:=runL_done hI0 (condF h2 rfl); fiB false (F120 all addr) (finD hD0_5 rfl))) (i0.1-1) i0.2 (un120_0 all addr i0 hi0))) (by kernel_rfl)
theorem kc120 (all:List l52Cut) (addr:Int) {K_:Prop} (p0_:∀ k j:Nat,((all.getD k default).w.getD j default).size≤1048576) (k_:K_):(∀ k j:Nat,((all.getD k default).w.getD j default).size≤1048576)∧(Imp (.l 1 el52Cut all) (.l 1 el52Cut all))∧(Imp (.v (vI addr)) (.v (vI addr)))∧K_:=⟨p0_,Imp.refl _,Imp.refl _,k_⟩
abbrev kh120 (all:List l52Cut) (addr:Int):Hint true Tryz.prog:=.call 120 (S120 all addr) (ok120 all addr) none
def F63_s0 (all:List l52Cut):Int→Lp Int Bool:=fun i40 =>
 bif (decide (i40<(all.length:Int))) then (bif ((F117 (all.getD (Int.toNat i40) default) 0).toList==(⟨#[114,111,117,116,101]⟩:ByteArray).toList) then (bif (!(F120 all (F95 (F117 (all.getD (Int.toNat i40) default) 2)))) then (.ret false) else (.next (i40+1))) else (bif ((F117 (all.getD (Int.toNat i40) default) 0).toList==(⟨#[112,101,101,114]⟩:ByteArray).toList) then (bif (!(F120 all (F95 (F117 (all.getD (Int.toNat i40) default) 1)))) then (.ret false) else (.next (i40+1))) else (.next (i40+1)))) else (.done i40)
def F63 (all:List l52Cut):Bool :=
 (runL (F63_s0 all) ((Int.toNat ((all.length:Int)-0))+1) 0).fin (fun r=>r) (fun i40=>true)
abbrev lN63_0 (all:List l52Cut):Nat×Int:=(((Int.toNat ((all.length:Int)-0))+1),0)
abbrev lI63_0 (all:List l52Cut) (m39:Nat) (i40:Int):Prop:=Int.toNat ((all.length:Int)-i40)<m39∧(0:Int)≤i40
abbrev lX63_0 (all:List l52Cut):Lp Int Bool:=LpX (F63_s0 all) (lN63_0 all)
abbrev lJ63_0 (all:List l52Cut) (i:Nat×Int):Prop:=LpJ (F63_s0 all) (lN63_0 all) i (lI63_0 all i.1 i.2)
abbrev lH63_0 (all:List l52Cut) (i:Nat×Int) (m39:Nat) (i40:Int):Prop:=LpH (F63_s0 all) (lN63_0 all) i m39 i40 (lI63_0 all (m39+1) i40)
abbrev lE63_0 (all:List l52Cut) (i40:Int) (i40_:Int) (K39:Prop):Prop:=((.int .i64 i40:Value)=.int .i64 i40_)∧(Im (.l 1 el52Cut all))∧K39
theorem un63_0 (all:List l52Cut) (i:Nat×Int) (h:lJ63_0 all i):lH63_0 all i (i.1-1) i.2:=⟨hd1 h.1 h.2.1,hd3 h.2.1,hd2 h.2.1,h.2.2⟩
theorem bk63_0 (all:List l52Cut) (i:Nat×Int) (m39:Nat) (i40:Int) (hl:m39<i.1) (e:runL (F63_s0 all) m39 i40=lX63_0 all) (h:lI63_0 all m39 i40):∃ j:Nat×Int,lE63_0 all i40 j.2 (lJ63_0 all j∧j.1<i.1):=⟨(m39,i40),rfl,Imp.refl _,⟨e,h⟩,hl⟩
theorem en63_0 (all:List l52Cut) (h:(0:Int)≤0):lE63_0 all 0 0 (lJ63_0 all (lN63_0 all)):=⟨rfl,Imp.refl _,rfl,Nat.lt_succ_self _,h⟩
def S63 (all:List l52Cut):Spec:=⟨[.r (.c (.l 1 el52Cut all))],.v (.bool (F63 all)),(∀ k j:Nat,((all.getD k default).w.getD j default).size≤1048576)⟩
abbrev q63_1 (all:List l52Cut) (i40:Int):=(all.getD (Int.toNat i40) default)
theorem ok63 (all:List l52Cut):(S63 all).ok Tryz.prog 63 :=
 fnG_ok mixed (fn:=Tryz.f63) (ct:=.seqk [(0,0)] .no (.seq (.seqk [(0,0)] .no (.blk (.loop (ι:=Nat×Int) (fun i=>(fun (i40:Int)=>(⟨[(0,some (.h 0 0)),(3,some (.v (vI i40)))],[(0,some (.shr none (.l 1 el52Cut all)))],1⟩:St)) i.2) (lJ63_0 all) (fun i=>i.1) (lN63_0 all) (fun i=>(fun (i40:Int)=>(.seq (.seq .no (.cond .no .no)) (.seq (.blk (.seq (.reg [(4,kh117 (q63_1 all i40) 0)]) (.blk (.seq .no (.cond (.seq (.reg [(5,kh117 (q63_1 all i40) 2),(6,kh95 (F117 (q63_1 all i40) 2)),(7,kh120 all (F95 (F117 (q63_1 all i40) 2)))]) (.cond (.seq .no .no) .no)) (.seq .no (.cond (.seq (.reg [(5,kh117 (q63_1 all i40) 1),(6,kh95 (F117 (q63_1 all i40) 1)),(7,kh120 all (F95 (F117 (q63_1 all i40) 1)))]) (.cond (.seq .no .no) .no)) .no))))))) (.reg [(1,.bnd)])))) i.2)))) (.seq .no .no))) Tryz.func63 (fun (hpre0:∀ k j:Nat,((all.getD k default).w.getD j default).size≤1048576)=>kn all fun _=>kn all fun _=>ai (en63_0 all (by omega)) (fun (i0:Nat×Int) (hi0:lJ63_0 all i0)=>(fun (m0:Nat) (i40:Int) (hh0:lH63_0 all i0 m0 i40)=>have hI0:=hh0.1; have hl0:=hh0.2.1; have _:=hh0.2.2.1; have _:=hh0.2.2.2; ifd (i40<(all.length:Int)) (fun h2 _=>ai (by omega:ib i40 all) (kc117 (q63_1 all i40) 0 (by omega) (ifb ((F117 (q63_1 all i40) 0).toList==w8_.toList) (fun h3=>ai (by omega:ib i40 all) (kc117 (q63_1 all i40) 2 (by omega) (kc95 (F117 (q63_1 all i40) 2) (by exact at_sz all (by assumption) _ _) (kc120 all (F95 (F117 (q63_1 all i40) 2)) (by assumption) (ifb (!(F120 all (F95 (F117 (q63_1 all i40) 2)))) (fun h4=>fiB false (F63 all) (finR (runL_ret hI0 (condT h2 (condT h3 (condT h4 rfl)))) rfl)) (fun h4=>ai (iok (i40+1) (by omega)) (bk63_0 all i0 m0 (i40+1) hl0 (runL_next hI0 (condT h2 (condT h3 (condF h4 rfl)))) (by refine ⟨?_,?_⟩ <;> omega)))))))) (fun h3=>ifb ((F117 (q63_1 all i40) 0).toList==w6_.toList) (fun h5=>ai (by omega:ib i40 all) (kc117 (q63_1 all i40) 1 (by omega) (kc95 (F117 (q63_1 all i40) 1) (by exact at_sz all (by assumption) _ _) (kc120 all (F95 (F117 (q63_1 all i40) 1)) (by assumption) (ifb (!(F120 all (F95 (F117 (q63_1 all i40) 1)))) (fun h6=>fiB false (F63 all) (finR (runL_ret hI0 (condT h2 (condF h3 (condT h5 (condT h6 rfl))))) rfl)) (fun h6=>ai (iok (i40+1) (by omega)) (bk63_0 all i0 m0 (i40+1) hl0 (runL_next hI0 (condT h2 (condF h3 (condT h5 (condF h6 rfl))))) (by refine ⟨?_,?_⟩ <;> omega)))))))) (fun h5=>ai (iok (i40+1) (by omega)) (bk63_0 all i0 m0 (i40+1) hl0 (runL_next hI0 (condT h2 (condF h3 (condF h5 rfl)))) (by refine ⟨?_,?_⟩ <;> omega))))))) (fun h2 _=>have hD0_7:lX63_0 all=Lp.done i40:=runL_done hI0 (condF h2 rfl); fiB true (F63 all) (finD hD0_7 rfl))) (i0.1-1) i0.2 (un63_0 all i0 hi0))) (by kernel_rfl)
def F121_s0 (all:List l52Cut):Int→Lp Int Int:=fun i40 =>
 bif (decide (i40<(all.length:Int))) then (bif ((F117 (all.getD (Int.toNat i40) default) 0).toList==(⟨#[110,97,116]⟩:ByteArray).toList) then (.ret i40) else (.next (i40+1))) else (.done i40)
def F121 (all:List l52Cut):Int :=
 (runL (F121_s0 all) ((Int.toNat ((all.length:Int)-0))+1) 0).fin (fun r=>r) (fun i40=>(-1))
abbrev lN121_0 (all:List l52Cut):Nat×Int:=(((Int.toNat ((all.length:Int)-0))+1),0)
abbrev lI121_0 (all:List l52Cut) (m39:Nat) (i40:Int):Prop:=Int.toNat ((all.length:Int)-i40)<m39∧(0:Int)≤i40
abbrev lX121_0 (all:List l52Cut):Lp Int Int:=LpX (F121_s0 all) (lN121_0 all)
abbrev lJ121_0 (all:List l52Cut) (i:Nat×Int):Prop:=LpJ (F121_s0 all) (lN121_0 all) i (lI121_0 all i.1 i.2)
abbrev lH121_0 (all:List l52Cut) (i:Nat×Int) (m39:Nat) (i40:Int):Prop:=LpH (F121_s0 all) (lN121_0 all) i m39 i40 (lI121_0 all (m39+1) i40)
abbrev lE121_0 (all:List l52Cut) (i40:Int) (i40_:Int) (K39:Prop):Prop:=((.int .i64 i40:Value)=.int .i64 i40_)∧(Im (.l 1 el52Cut all))∧K39
theorem un121_0 (all:List l52Cut) (i:Nat×Int) (h:lJ121_0 all i):lH121_0 all i (i.1-1) i.2:=⟨hd1 h.1 h.2.1,hd3 h.2.1,hd2 h.2.1,h.2.2⟩
theorem bk121_0 (all:List l52Cut) (i:Nat×Int) (m39:Nat) (i40:Int) (hl:m39<i.1) (e:runL (F121_s0 all) m39 i40=lX121_0 all) (h:lI121_0 all m39 i40):∃ j:Nat×Int,lE121_0 all i40 j.2 (lJ121_0 all j∧j.1<i.1):=⟨(m39,i40),rfl,Imp.refl _,⟨e,h⟩,hl⟩
theorem en121_0 (all:List l52Cut) (h:(0:Int)≤0):lE121_0 all 0 0 (lJ121_0 all (lN121_0 all)):=⟨rfl,Imp.refl _,rfl,Nat.lt_succ_self _,h⟩
def S121 (R:Int) (all:List l52Cut):Spec:=⟨[.r (.c (.l 1 el52Cut all))],.v (vI R),True⟩
theorem ok121 (all:List l52Cut):(S121 (F121 all) all).ok Tryz.prog 121 :=
 fnG_ok mixed (fn:=Tryz.f121) (ct:=.seqk [(0,0)] .no (.seq (.seqk [(0,0)] .no (.blk (.loop (ι:=Nat×Int) (fun i=>(fun (i40:Int)=>(⟨[(0,some (.h 0 0)),(3,some (.v (vI i40)))],[(0,some (.shr none (.l 1 el52Cut all)))],1⟩:St)) i.2) (lJ121_0 all) (fun i=>i.1) (lN121_0 all) (fun i=>(fun (i40:Int)=>(.seq (.seq .no (.cond .no .no)) (.seq (.blk (.seq (.reg [(4,kh117 (all.getD (Int.toNat i40) default) 0)]) (.cond (.seq .no .no) .no))) (.reg [(1,.bnd)])))) i.2)))) (.seq .no .no))) Tryz.func121 (fun (_:True)=>kn all fun _=>kn all fun _=>ai (en121_0 all (by omega)) (fun (i0:Nat×Int) (hi0:lJ121_0 all i0)=>(fun (m0:Nat) (i40:Int) (hh0:lH121_0 all i0 m0 i40)=>have hI0:=hh0.1; have hl0:=hh0.2.1; have _:=hh0.2.2.1; have _:=hh0.2.2.2; ifd (i40<(all.length:Int)) (fun h2 _=>ai (by omega:ib i40 all) (kc117 (all.getD (Int.toNat i40) default) 0 (by omega) (ifb ((F117 (all.getD (Int.toNat i40) default) 0).toList==w5_.toList) (fun h3=>fiI i40 (F121 all) (finR (runL_ret hI0 (condT h2 (condT h3 rfl))) rfl)) (fun h3=>ai (iok (i40+1) (by omega)) (bk121_0 all i0 m0 (i40+1) hl0 (runL_next hI0 (condT h2 (condF h3 rfl))) (by refine ⟨?_,?_⟩ <;> omega)))))) (fun h2 _=>have hD0_4:lX121_0 all=Lp.done i40:=runL_done hI0 (condF h2 rfl); fiI (-1) (F121 all) (finD hD0_4 rfl))) (i0.1-1) i0.2 (un121_0 all i0 hi0))) (by kernel_rfl)
theorem as121 (all:List l52Cut):F121 all=(idxI (fun c=>((F117 c 0).toList==(⟨#[110,97,116]⟩:ByteArray).toList)) all):=by
 exact idx_loop (fun c=>((F117 c 0).toList==(⟨#[110,97,116]⟩:ByteArray).toList)) all (F121_s0 all) (fun i=>rfl)
theorem oa121 (all:List l52Cut):(S121 (idxI (fun c=>((F117 c 0).toList==(⟨#[110,97,116]⟩:ByteArray).toList)) all) all).ok Tryz.prog 121:=by
 intro hp; have h:=ok121 all hp; rw [as121 all] at h; exact h
theorem g121_0 (all:List l52Cut):(idxI (fun c=>((F117 c 0).toList==(⟨#[110,97,116]⟩:ByteArray).toList)) all)<(all.length:Int):=by
 exact idxI_lt _ all
theorem kg123 {K_:Prop} (c_ b_:Bool) (s:ByteArray) (p_:c_=b_→s.size≤1048576) (k_:K_):(c_=b_→s.size≤1048576)∧(c_=b_→Imp (.v (.string s)) (.v (.string s)))∧K_:=⟨p_,fun _=>Imp.refl _,k_⟩
def F122_s0 (all:List l52Cut) (at':Int) (nat:l52Cut):Int→Lp Int Bool:=fun i40 =>
 bif (decide (i40<at')) then (bif (bif (bif (bif ((F117 (all.getD (Int.toNat i40) default) 0).toList==(⟨#[100,111,111,114]⟩:ByteArray).toList) then ((F117 (all.getD (Int.toNat i40) default) 1).toList==(F117 (all.getD (Int.toNat at') default) 1).toList) else false) then ((F117 (all.getD (Int.toNat i40) default) 3).toList==(F117 (all.getD (Int.toNat at') default) 3).toList) else false) then ((F117 (all.getD (Int.toNat i40) default) 4).toList==(F117 (all.getD (Int.toNat at') default) 4).toList) else false) then (.ret false) else (.next (i40+1))) else (.done i40)
def F122 (all:List l52Cut) (at':Int) (nat:l52Cut):Bool :=
 bif (bif (bif decide ((F95 (F117 (all.getD (Int.toNat at') default) 3))<(F119 (F117 nat 1)).1) then true else decide ((F95 (F117 (all.getD (Int.toNat at') default) 3))≥(IntKind.i64.wrap ((F119 (F117 nat 1)).1+(F119 (F117 nat 1)).2)))) then true else (decide ((F123 (F117 nat 3))≤F123 (F117 (all.getD (Int.toNat at') default) 2)∧F123 (F117 (all.getD (Int.toNat at') default) 2)≤(F123 (F117 nat 4))))) then false else ((runL (F122_s0 all at' nat) ((Int.toNat (at'-0))+1) 0).fin (fun r=>r) (fun i40=>true))
abbrev lN122_0 (at':Int):Nat×Int:=(((Int.toNat (at'-0))+1),0)
abbrev lI122_0 (at':Int) (m39:Nat) (i40:Int):Prop:=Int.toNat (at'-i40)<m39∧(0:Int)≤i40
abbrev lX122_0 (all:List l52Cut) (at':Int) (nat:l52Cut):Lp Int Bool:=LpX (F122_s0 all at' nat) (lN122_0 at')
abbrev lJ122_0 (all:List l52Cut) (at':Int) (nat:l52Cut) (i:Nat×Int):Prop:=LpJ (F122_s0 all at' nat) (lN122_0 at') i (lI122_0 at' i.1 i.2)
abbrev lH122_0 (all:List l52Cut) (at':Int) (nat:l52Cut) (i:Nat×Int) (m39:Nat) (i40:Int):Prop:=LpH (F122_s0 all at' nat) (lN122_0 at') i m39 i40 (lI122_0 at' (m39+1) i40)
abbrev lE122_0 (all:List l52Cut) (at':Int) (i40:Int) (i40_:Int) (K39:Prop):Prop:=(Rf (.int .i64 at'))∧((.int .i64 i40:Value)=.int .i64 i40_)∧(Im (.l 1 el52Cut all))∧(Ims (el52Cut (all.getD (Int.toNat at') default)))∧K39
theorem un122_0 (all:List l52Cut) (at':Int) (nat:l52Cut) (i:Nat×Int) (h:lJ122_0 all at' nat i):lH122_0 all at' nat i (i.1-1) i.2:=⟨hd1 h.1 h.2.1,hd3 h.2.1,hd2 h.2.1,h.2.2⟩
theorem bk122_0 (all:List l52Cut) (at':Int) (nat:l52Cut) (i:Nat×Int) (m39:Nat) (i40:Int) (hl:m39<i.1) (e:runL (F122_s0 all at' nat) m39 i40=lX122_0 all at' nat) (h:lI122_0 at' m39 i40):∃ j:Nat×Int,lE122_0 all at' i40 j.2 (lJ122_0 all at' nat j∧j.1<i.1):=⟨(m39,i40),rfl,rfl,Imp.refl _,Imps.refl _,⟨e,h⟩,hl⟩
theorem en122_0 (all:List l52Cut) (at':Int) (nat:l52Cut) (h:(0:Int)≤0):lE122_0 all at' 0 0 (lJ122_0 all at' nat (lN122_0 at')):=⟨rfl,rfl,Imp.refl _,Imps.refl _,rfl,Nat.lt_succ_self _,h⟩
def S122 (all:List l52Cut) (at':Int) (nat:l52Cut):Spec:=⟨[.r (.c (.l 1 el52Cut all)),.r (.c (.v (vI at'))),.r (.g (el52Cut nat))],.v (.bool (F122 all at' nat)),0≤at'∧at'<(all.length:Int)∧(∀ j:Nat,(nat.w.getD j default).size≤1048576)∧(∀ k j:Nat,((all.getD k default).w.getD j default).size≤1048576)⟩
abbrev q122_1 (all:List l52Cut) (at':Int):=(all.getD (Int.toNat at') default)
abbrev q122_2 (all:List l52Cut) (i40:Int):=(all.getD (Int.toNat i40) default)
abbrev q122_3 (all:List l52Cut) (at':Int):=(F95 (F117 (q122_1 all at') 3))
theorem ok122 (all:List l52Cut) (at':Int) (nat:l52Cut):(S122 all at' nat).ok Tryz.prog 122 :=
 fnG_ok mixed (fn:=Tryz.f122) (ct:=.seqk [(0,0)] .no (.seq .no (.seq (.reg [(1,kh117 nat 1),(2,kh119 (F117 nat 1))]) (.seq (.reg [(1,kh117 (q122_1 all at') 3),(2,kh95 (F117 (q122_1 all at') 3))]) (.seq (.seq (.reg [(12,kh117 (q122_1 all at') 2),(14,kh117 nat 3),(15,kh123 (F117 nat 3)),(17,kh117 nat 4),(18,kh123 (F117 nat 4)),(19,kh93a (F117 (q122_1 all at') 2) (F123 (F117 nat 3)) (F123 (F117 nat 4)))]) (.cond (.seq .no .no) .no)) (.seq (.seqk [(0,0),(7,0)] .no (.blk (.loop (ι:=Nat×Int) (fun i=>(fun (i40:Int)=>(⟨[(0,some (.h 0 0)),(1,some (.v (vI at'))),(7,some (.p 1 0)),(11,some (.v (vI i40)))],[(0,some (.shr none (.l 1 el52Cut all))),(1,some (.box 117 [.h 2 1])),(2,some (.mem none none (el52Cut (q122_1 all at'))))],3⟩:St)) i.2) (lJ122_0 all at' nat) (fun i=>i.1) (lN122_0 at') (fun i=>(fun (i40:Int)=>(.seq (.seq .no (.cond .no .no)) (.seq (.blk (.seq (.reg [(4,kh117 (q122_2 all i40) 0),(11,kh117 (q122_2 all i40) 1),(13,kh117 (q122_1 all at') 1),(21,kh117 (q122_2 all i40) 3),(23,kh117 (q122_1 all at') 3),(31,kh117 (q122_2 all i40) 4),(33,kh117 (q122_1 all at') 4)]) (.cond (.seq .no .no) .no))) (.reg [(1,.bnd)])))) i.2)))) (.seq .no .no))))))) Tryz.func122 (fun (hp:0≤at'∧at'<(all.length:Int)∧(∀ j:Nat,(nat.w.getD j default).size≤1048576)∧(∀ k j:Nat,((all.getD k default).w.getD j default).size≤1048576))=>have hpre0:=hp.1; have hpre1:=hp.2.1; have hpre2:=hp.2.2.1; have hpre3:=hp.2.2.2; kn all fun _=>ai (by omega:ib at' all) (kc117 nat 1 (by omega) (kc119 (F117 nat 1) (by exact at_sz1 (by assumption) _) (kc117 (q122_1 all at') 3 (by omega) (kc95 (F117 (q122_1 all at') 3) (by exact at_sz all (by assumption) _ _) (kg117 (bif decide ((q122_3 all at')<(F119 (F117 nat 1)).1) then true else decide ((q122_3 all at')≥(IntKind.i64.wrap ((F119 (F117 nat 1)).1+(F119 (F117 nat 1)).2)))) false (q122_1 all at') 2 (fun k1=>have _:=of_decide_eq_false (orF1 k1); have _:=of_decide_eq_false (orF2 k1); (by omega)) (kg117 (bif decide ((q122_3 all at')<(F119 (F117 nat 1)).1) then true else decide ((q122_3 all at')≥(IntKind.i64.wrap ((F119 (F117 nat 1)).1+(F119 (F117 nat 1)).2)))) false nat 3 (fun k2=>have _:=of_decide_eq_false (orF1 k2); have _:=of_decide_eq_false (orF2 k2); (by omega)) (kg123 (bif decide ((q122_3 all at')<(F119 (F117 nat 1)).1) then true else decide ((q122_3 all at')≥(IntKind.i64.wrap ((F119 (F117 nat 1)).1+(F119 (F117 nat 1)).2)))) false (F117 nat 3) (fun k3=>have _:=of_decide_eq_false (orF1 k3); have _:=of_decide_eq_false (orF2 k3); (by exact at_sz1 (by assumption) _)) (kg117 (bif decide ((q122_3 all at')<(F119 (F117 nat 1)).1) then true else decide ((q122_3 all at')≥(IntKind.i64.wrap ((F119 (F117 nat 1)).1+(F119 (F117 nat 1)).2)))) false nat 4 (fun k4=>have _:=of_decide_eq_false (orF1 k4); have _:=of_decide_eq_false (orF2 k4); (by omega)) (kg123 (bif decide ((q122_3 all at')<(F119 (F117 nat 1)).1) then true else decide ((q122_3 all at')≥(IntKind.i64.wrap ((F119 (F117 nat 1)).1+(F119 (F117 nat 1)).2)))) false (F117 nat 4) (fun k5=>have _:=of_decide_eq_false (orF1 k5); have _:=of_decide_eq_false (orF2 k5); (by exact at_sz1 (by assumption) _)) (kg93a (bif decide ((q122_3 all at')<(F119 (F117 nat 1)).1) then true else decide ((q122_3 all at')≥(IntKind.i64.wrap ((F119 (F117 nat 1)).1+(F119 (F117 nat 1)).2)))) false (F117 (q122_1 all at') 2) (F123 (F117 nat 3)) (F123 (F117 nat 4)) (fun k6=>have _:=of_decide_eq_false (orF1 k6); have _:=of_decide_eq_false (orF2 k6); (by exact at_sz all (by assumption) _ _)) (ifb (bif (bif decide ((q122_3 all at')<(F119 (F117 nat 1)).1) then true else decide ((q122_3 all at')≥(IntKind.i64.wrap ((F119 (F117 nat 1)).1+(F119 (F117 nat 1)).2)))) then true else (decide ((F123 (F117 nat 3))≤F123 (F117 (q122_1 all at') 2)∧F123 (F117 (q122_1 all at') 2)≤(F123 (F117 nat 4))))) (fun h7=>fiB false (F122 all at' nat) (condT h7 rfl)) (fun h7=>have _:=of_decide_eq_false (orF1 (orF1 h7)); have _:=of_decide_eq_false (orF2 (orF1 h7)); have _:=of_decide_eq_false (orF2 h7); kn all fun _=>kn (q122_1 all at').w fun _=>ai (en122_0 all at' nat (by omega)) (fun (i0:Nat×Int) (hi0:lJ122_0 all at' nat i0)=>(fun (m0:Nat) (i40:Int) (hh0:lH122_0 all at' nat i0 m0 i40)=>have hI0:=hh0.1; have hl0:=hh0.2.1; have _:=hh0.2.2.1; have _:=hh0.2.2.2; ifd (i40<at') (fun h9 _=>ai (by omega:ib i40 all) (kc117 (q122_2 all i40) 0 (by omega) (ai (fun k10:((F117 (q122_2 all i40) 0).toList==w3_.toList)=true=>(by omega:ib i40 all)) (kg117 ((F117 (q122_2 all i40) 0).toList==w3_.toList) true (q122_2 all i40) 1 (fun k11=>(by omega)) (kg117 ((F117 (q122_2 all i40) 0).toList==w3_.toList) true (q122_1 all at') 1 (fun k12=>(by omega)) (ai (fun k13:(bif ((F117 (q122_2 all i40) 0).toList==w3_.toList) then ((F117 (q122_2 all i40) 1).toList==(F117 (q122_1 all at') 1).toList) else false)=true=>have _:((F117 (q122_2 all i40) 0).toList==w3_.toList)=true:=(andT1 k13); have _:=(andT2 k13); (by omega:ib i40 all)) (kg117 (bif ((F117 (q122_2 all i40) 0).toList==w3_.toList) then ((F117 (q122_2 all i40) 1).toList==(F117 (q122_1 all at') 1).toList) else false) true (q122_2 all i40) 3 (fun k14=>have _:((F117 (q122_2 all i40) 0).toList==w3_.toList)=true:=(andT1 k14); have _:=(andT2 k14); (by omega)) (kg117 (bif ((F117 (q122_2 all i40) 0).toList==w3_.toList) then ((F117 (q122_2 all i40) 1).toList==(F117 (q122_1 all at') 1).toList) else false) true (q122_1 all at') 3 (fun k15=>have _:((F117 (q122_2 all i40) 0).toList==w3_.toList)=true:=(andT1 k15); have _:=(andT2 k15); (by omega)) (ai (fun k16:(bif (bif ((F117 (q122_2 all i40) 0).toList==w3_.toList) then ((F117 (q122_2 all i40) 1).toList==(F117 (q122_1 all at') 1).toList) else false) then ((F117 (q122_2 all i40) 3).toList==(F117 (q122_1 all at') 3).toList) else false)=true=>have _:((F117 (q122_2 all i40) 0).toList==w3_.toList)=true:=(andT1 (andT1 k16)); have _:=(andT2 (andT1 k16)); have _:=(andT2 k16); (by omega:ib i40 all)) (kg117 (bif (bif ((F117 (q122_2 all i40) 0).toList==w3_.toList) then ((F117 (q122_2 all i40) 1).toList==(F117 (q122_1 all at') 1).toList) else false) then ((F117 (q122_2 all i40) 3).toList==(F117 (q122_1 all at') 3).toList) else false) true (q122_2 all i40) 4 (fun k17=>have _:((F117 (q122_2 all i40) 0).toList==w3_.toList)=true:=(andT1 (andT1 k17)); have _:=(andT2 (andT1 k17)); have _:=(andT2 k17); (by omega)) (kg117 (bif (bif ((F117 (q122_2 all i40) 0).toList==w3_.toList) then ((F117 (q122_2 all i40) 1).toList==(F117 (q122_1 all at') 1).toList) else false) then ((F117 (q122_2 all i40) 3).toList==(F117 (q122_1 all at') 3).toList) else false) true (q122_1 all at') 4 (fun k18=>have _:((F117 (q122_2 all i40) 0).toList==w3_.toList)=true:=(andT1 (andT1 k18)); have _:=(andT2 (andT1 k18)); have _:=(andT2 k18); (by omega)) (ifb (bif (bif (bif ((F117 (q122_2 all i40) 0).toList==w3_.toList) then ((F117 (q122_2 all i40) 1).toList==(F117 (q122_1 all at') 1).toList) else false) then ((F117 (q122_2 all i40) 3).toList==(F117 (q122_1 all at') 3).toList) else false) then ((F117 (q122_2 all i40) 4).toList==(F117 (q122_1 all at') 4).toList) else false) (fun h19=>have _:((F117 (q122_2 all i40) 0).toList==w3_.toList)=true:=(andT1 (andT1 (andT1 h19))); have _:=(andT2 (andT1 (andT1 h19))); have _:=(andT2 (andT1 h19)); have _:=(andT2 h19); fiB false (F122 all at' nat) (condF h7 (finR (runL_ret hI0 (condT h9 (condT h19 rfl))) rfl))) (fun h19=>ai (iok (i40+1) (by omega)) (bk122_0 all at' nat i0 m0 (i40+1) hl0 (runL_next hI0 (condT h9 (condF h19 rfl))) (by refine ⟨?_,?_⟩ <;> omega))))))))))))))) (fun h9 _=>have hD0_20:lX122_0 all at' nat=Lp.done i40:=runL_done hI0 (condF h9 rfl); fiB true (F122 all at' nat) (condF h7 (finD hD0_20 rfl)))) (i0.1-1) i0.2 (un122_0 all at' nat i0 hi0))))))))))))))) (by kernel_rfl)
theorem kc121a (all:List l52Cut) {K_:Prop} (k_:((idxI (fun c=>((F117 c 0).toList==w5_.toList)) all)<(all.length:Int))→K_):(True)∧(Imp (.l 1 el52Cut all) (.l 1 el52Cut all))∧K_:=⟨trivial,Imp.refl _,k_ (g121_0 all)⟩
abbrev kh121a (all:List l52Cut):Hint true Tryz.prog:=.call 121 (S121 (idxI (fun c=>((F117 c 0).toList==w5_.toList)) all) all) (oa121 all) none
theorem kg122 {K_:Prop} (c_ b_:Bool) (all:List l52Cut) (at':Int) (nat:l52Cut) (p_:c_=b_→0≤at'∧at'<(all.length:Int)∧(∀ j:Nat,(nat.w.getD j default).size≤1048576)∧(∀ k j:Nat,((all.getD k default).w.getD j default).size≤1048576)) (k_:K_):(c_=b_→0≤at'∧at'<(all.length:Int)∧(∀ j:Nat,(nat.w.getD j default).size≤1048576)∧(∀ k j:Nat,((all.getD k default).w.getD j default).size≤1048576))∧(c_=b_→Imp (.l 1 el52Cut all) (.l 1 el52Cut all))∧(c_=b_→Imp (.v (vI at')) (.v (vI at')))∧(c_=b_→Imps (el52Cut nat) (el52Cut nat))∧K_:=⟨p_,fun _=>Imp.refl _,fun _=>Imp.refl _,fun _=>Imps.refl _,k_⟩
abbrev kh122 (all:List l52Cut) (at':Int) (nat:l52Cut):Hint true Tryz.prog:=.call 122 (S122 all at' nat) (ok122 all at' nat) none
def F64_s0 (all:List l52Cut):(Int×Int)→Lp (Int×Int) Bool:=fun (doors,i40) =>
 bif (decide (i40<(all.length:Int))) then (bif (!((F117 (all.getD (Int.toNat i40) default) 0).toList==(⟨#[100,111,111,114]⟩:ByteArray).toList)) then (.next (doors,(i40+1))) else (bif (bif decide ((idxI (fun c=>((F117 c 0).toList==(⟨#[110,97,116]⟩:ByteArray).toList)) all)<0) then true else (!(F122 all i40 (all.getD (Int.toNat (idxI (fun c=>((F117 c 0).toList==(⟨#[110,97,116]⟩:ByteArray).toList)) all)) default)))) then (.ret false) else (.next ((doors+1),(i40+1))))) else (.done (doors,i40))
def F64 (all:List l52Cut):Bool :=
 (runL (F64_s0 all) ((Int.toNat ((all.length:Int)-0))+1) (0,0)).fin (fun r=>r) (fun (doors,i40)=>bif (decide ((idxI (fun c=>((F117 c 0).toList==(⟨#[110,97,116]⟩:ByteArray).toList)) all)<0)) then true else (bif (bif decide (doors≤6) then (bif decide ((F95 (F117 (all.getD (Int.toNat (idxI (fun c=>((F117 c 0).toList==(⟨#[110,97,116]⟩:ByteArray).toList)) all)) default) 2))<(F119 (F117 (all.getD (Int.toNat (idxI (fun c=>((F117 c 0).toList==(⟨#[110,97,116]⟩:ByteArray).toList)) all)) default) 1)).1) then true else decide ((F95 (F117 (all.getD (Int.toNat (idxI (fun c=>((F117 c 0).toList==(⟨#[110,97,116]⟩:ByteArray).toList)) all)) default) 2))≥(IntKind.i64.wrap ((F119 (F117 (all.getD (Int.toNat (idxI (fun c=>((F117 c 0).toList==(⟨#[110,97,116]⟩:ByteArray).toList)) all)) default) 1)).1+(F119 (F117 (all.getD (Int.toNat (idxI (fun c=>((F117 c 0).toList==(⟨#[110,97,116]⟩:ByteArray).toList)) all)) default) 1)).2)))) else false) then decide ((F123 (F117 (all.getD (Int.toNat (idxI (fun c=>((F117 c 0).toList==(⟨#[110,97,116]⟩:ByteArray).toList)) all)) default) 3))≤(F123 (F117 (all.getD (Int.toNat (idxI (fun c=>((F117 c 0).toList==(⟨#[110,97,116]⟩:ByteArray).toList)) all)) default) 4))) else false))
abbrev lN64_0 (all:List l52Cut):Nat×(Int×Int):=(((Int.toNat ((all.length:Int)-0))+1),(0,0))
abbrev lI64_0 (all:List l52Cut) (m39:Nat) (doors:Int) (i40:Int):Prop:=Int.toNat ((all.length:Int)-i40)<m39∧(0:Int)≤doors∧(doors:Int)≤i40∧(0:Int)≤doors∧(0:Int)≤i40
abbrev lX64_0 (all:List l52Cut):Lp (Int×Int) Bool:=LpX (F64_s0 all) (lN64_0 all)
abbrev lJ64_0 (all:List l52Cut) (i:Nat×(Int×Int)):Prop:=LpJ (F64_s0 all) (lN64_0 all) i (lI64_0 all i.1 i.2.1 i.2.2)
abbrev lH64_0 (all:List l52Cut) (i:Nat×(Int×Int)) (m39:Nat) (doors:Int) (i40:Int):Prop:=LpH (F64_s0 all) (lN64_0 all) i m39 (doors,i40) (lI64_0 all (m39+1) doors i40)
abbrev lE64_0 (all:List l52Cut) (doors:Int) (i40:Int) (doors_:Int) (i40_:Int) (K39:Prop):Prop:=(Rf (.int .i64 (idxI (fun c=>((F117 c 0).toList==w5_.toList)) all)))∧((.int .i64 doors:Value)=.int .i64 doors_)∧((.int .i64 i40:Value)=.int .i64 i40_)∧(Im (.l 1 el52Cut all))∧K39
theorem un64_0 (all:List l52Cut) (i:Nat×(Int×Int)) (h:lJ64_0 all i):lH64_0 all i (i.1-1) i.2.1 i.2.2:=⟨hd1 h.1 h.2.1,hd3 h.2.1,hd2 h.2.1,h.2.2⟩
theorem bk64_0 (all:List l52Cut) (i:Nat×(Int×Int)) (m39:Nat) (doors:Int) (i40:Int) (hl:m39<i.1) (e:runL (F64_s0 all) m39 (doors,i40)=lX64_0 all) (h:lI64_0 all m39 doors i40):∃ j:Nat×(Int×Int),lE64_0 all doors i40 j.2.1 j.2.2 (lJ64_0 all j∧j.1<i.1):=⟨(m39,(doors,i40)),rfl,rfl,rfl,Imp.refl _,⟨e,h⟩,hl⟩
theorem en64_0 (all:List l52Cut) (h:(0:Int)≤0∧(0:Int)≤0∧(0:Int)≤0∧(0:Int)≤0):lE64_0 all 0 0 0 0 (lJ64_0 all (lN64_0 all)):=⟨rfl,rfl,rfl,Imp.refl _,rfl,Nat.lt_succ_self _,h⟩
def S64 (all:List l52Cut):Spec:=⟨[.r (.c (.l 1 el52Cut all))],.v (.bool (F64 all)),(∀ k j:Nat,((all.getD k default).w.getD j default).size≤1048576)⟩
theorem ok64 (all:List l52Cut):(S64 all).ok Tryz.prog 64 :=
 fnG_ok mixed (fn:=Tryz.f64) (ct:=.seqk [(0,0)] .no (.seq (.reg [(1,kh121a all)]) (.seq .no (.seq (.seqk [(0,0)] .no (.blk (.loop (ι:=Nat×(Int×Int)) (fun i=>(fun (doors:Int) (i40:Int)=>(⟨[(0,some (.h 0 0)),(3,some (.v (vI (idxI (fun c=>((F117 c 0).toList==w5_.toList)) all)))),(4,some (.v (vI doors))),(5,some (.v (vI i40)))],[(0,some (.shr none (.l 1 el52Cut all)))],1⟩:St)) i.2.1 i.2.2) (lJ64_0 all) (fun i=>i.1) (lN64_0 all) (fun i=>(fun (doors:Int) (i40:Int)=>(.seq (.seq .no (.cond .no .no)) (.seq (.blk (.seq (.seq (.reg [(4,kh117 (all.getD (Int.toNat i40) default) 0)]) (.cond .no .no)) (.seq (.reg [(1,.bnd)]) (.seq (.reg [(9,kh122 all i40 (all.getD (Int.toNat (idxI (fun c=>((F117 c 0).toList==w5_.toList)) all)) default))]) (.cond (.seq .no .no) .no))))) (.reg [(1,.bnd)])))) i.2.1 i.2.2)))) (.seq (.seq .no (.cond (.seq .no .no) .no)) (.seq (.reg [(4,kh117 (all.getD (Int.toNat (idxI (fun c=>((F117 c 0).toList==w5_.toList)) all)) default) 1),(5,kh119 (F117 (all.getD (Int.toNat (idxI (fun c=>((F117 c 0).toList==w5_.toList)) all)) default) 1))]) (.seq (.reg [(4,kh117 (all.getD (Int.toNat (idxI (fun c=>((F117 c 0).toList==w5_.toList)) all)) default) 2),(5,kh95 (F117 (all.getD (Int.toNat (idxI (fun c=>((F117 c 0).toList==w5_.toList)) all)) default) 2))]) (.seq (.reg [(19,kh117 (all.getD (Int.toNat (idxI (fun c=>((F117 c 0).toList==w5_.toList)) all)) default) 3),(20,kh123 (F117 (all.getD (Int.toNat (idxI (fun c=>((F117 c 0).toList==w5_.toList)) all)) default) 3)),(25,kh117 (all.getD (Int.toNat (idxI (fun c=>((F117 c 0).toList==w5_.toList)) all)) default) 4),(26,kh123 (F117 (all.getD (Int.toNat (idxI (fun c=>((F117 c 0).toList==w5_.toList)) all)) default) 4))]) .no)))))))) Tryz.func64 (fun (hpre0:∀ k j:Nat,((all.getD k default).w.getD j default).size≤1048576)=>kn all fun _=>kc121a all (fun gv1=>kn all fun _=>ai (en64_0 all (by refine ⟨?_,?_,?_,?_⟩ <;> omega)) (fun (i0:Nat×(Int×Int)) (hi0:lJ64_0 all i0)=>(fun (m0:Nat) (doors:Int) (i40:Int) (hh0:lH64_0 all i0 m0 doors i40)=>have hI0:=hh0.1; have hl0:=hh0.2.1; have _:=hh0.2.2.1; have _:=hh0.2.2.2; ifd (i40<(all.length:Int)) (fun h3 _=>ai (by omega:ib i40 all) (kc117 (all.getD (Int.toNat i40) default) 0 (by omega) (ifb (!((F117 (all.getD (Int.toNat i40) default) 0).toList==w3_.toList)) (fun h4=>ai (iok (i40+1) (by omega)) (bk64_0 all i0 m0 doors (i40+1) hl0 (runL_next hI0 (condT h3 (condT h4 rfl))) (by refine ⟨?_,?_,?_,?_,?_⟩ <;> omega))) (fun h4=>ai (iok (doors+1) (by omega)) (ai (fun k5:(decide ((idxI (fun c=>((F117 c 0).toList==w5_.toList)) all)<0))=false=>have _:¬ (idxI (fun c=>((F117 c 0).toList==w5_.toList)) all)<0:=of_decide_eq_false k5; (by omega:ib (idxI (fun c=>((F117 c 0).toList==w5_.toList)) all) all)) (kg122 (decide ((idxI (fun c=>((F117 c 0).toList==w5_.toList)) all)<0)) false all i40 (all.getD (Int.toNat (idxI (fun c=>((F117 c 0).toList==w5_.toList)) all)) default) (fun k6=>have _:¬ (idxI (fun c=>((F117 c 0).toList==w5_.toList)) all)<0:=of_decide_eq_false k6; ⟨(by omega),(by omega),(by exact fun j=>(by assumption:∀ k j:Nat,((all.getD k default).w.getD j default).size≤1048576) _ j),(by omega)⟩) (ifb (bif decide ((idxI (fun c=>((F117 c 0).toList==w5_.toList)) all)<0) then true else (!(F122 all i40 (all.getD (Int.toNat (idxI (fun c=>((F117 c 0).toList==w5_.toList)) all)) default)))) (fun h7=>fiB false (F64 all) (finR (runL_ret hI0 (condT h3 (condF h4 (condT h7 rfl)))) rfl)) (fun h7=>have _:¬ (idxI (fun c=>((F117 c 0).toList==w5_.toList)) all)<0:=of_decide_eq_false (orF1 h7); ai (iok (i40+1) (by omega)) (bk64_0 all i0 m0 (doors+1) (i40+1) hl0 (runL_next hI0 (condT h3 (condF h4 (condF h7 rfl)))) (by refine ⟨?_,?_,?_,?_,?_⟩ <;> omega)))))))))) (fun h3 _=>have hD0_8:lX64_0 all=Lp.done (doors,i40):=runL_done hI0 (condF h3 rfl); ifd ((idxI (fun c=>((F117 c 0).toList==w5_.toList)) all)<0) (fun h9 _=>fiB true (F64 all) (finD hD0_8 (condT h9 rfl))) (fun h9 _=>ai (by omega:ib (idxI (fun c=>((F117 c 0).toList==w5_.toList)) all) all) (kc117 (all.getD (Int.toNat (idxI (fun c=>((F117 c 0).toList==w5_.toList)) all)) default) 1 (by omega) (kc119 (F117 (all.getD (Int.toNat (idxI (fun c=>((F117 c 0).toList==w5_.toList)) all)) default) 1) (by exact at_sz all (by assumption) _ _) (ai (by omega:ib (idxI (fun c=>((F117 c 0).toList==w5_.toList)) all) all) (kc117 (all.getD (Int.toNat (idxI (fun c=>((F117 c 0).toList==w5_.toList)) all)) default) 2 (by omega) (kc95 (F117 (all.getD (Int.toNat (idxI (fun c=>((F117 c 0).toList==w5_.toList)) all)) default) 2) (by exact at_sz all (by assumption) _ _) (ai (fun k10:(bif decide (doors≤6) then (bif decide ((F95 (F117 (all.getD (Int.toNat (idxI (fun c=>((F117 c 0).toList==w5_.toList)) all)) default) 2))<(F119 (F117 (all.getD (Int.toNat (idxI (fun c=>((F117 c 0).toList==w5_.toList)) all)) default) 1)).1) then true else decide ((F95 (F117 (all.getD (Int.toNat (idxI (fun c=>((F117 c 0).toList==w5_.toList)) all)) default) 2))≥(IntKind.i64.wrap ((F119 (F117 (all.getD (Int.toNat (idxI (fun c=>((F117 c 0).toList==w5_.toList)) all)) default) 1)).1+(F119 (F117 (all.getD (Int.toNat (idxI (fun c=>((F117 c 0).toList==w5_.toList)) all)) default) 1)).2)))) else false)=true=>have _:=of_decide_eq_true (andT1 k10); (by omega:ib (idxI (fun c=>((F117 c 0).toList==w5_.toList)) all) all)) (kg117 (bif decide (doors≤6) then (bif decide ((F95 (F117 (all.getD (Int.toNat (idxI (fun c=>((F117 c 0).toList==w5_.toList)) all)) default) 2))<(F119 (F117 (all.getD (Int.toNat (idxI (fun c=>((F117 c 0).toList==w5_.toList)) all)) default) 1)).1) then true else decide ((F95 (F117 (all.getD (Int.toNat (idxI (fun c=>((F117 c 0).toList==w5_.toList)) all)) default) 2))≥(IntKind.i64.wrap ((F119 (F117 (all.getD (Int.toNat (idxI (fun c=>((F117 c 0).toList==w5_.toList)) all)) default) 1)).1+(F119 (F117 (all.getD (Int.toNat (idxI (fun c=>((F117 c 0).toList==w5_.toList)) all)) default) 1)).2)))) else false) true (all.getD (Int.toNat (idxI (fun c=>((F117 c 0).toList==w5_.toList)) all)) default) 3 (fun k11=>have _:=of_decide_eq_true (andT1 k11); (by omega)) (kg123 (bif decide (doors≤6) then (bif decide ((F95 (F117 (all.getD (Int.toNat (idxI (fun c=>((F117 c 0).toList==w5_.toList)) all)) default) 2))<(F119 (F117 (all.getD (Int.toNat (idxI (fun c=>((F117 c 0).toList==w5_.toList)) all)) default) 1)).1) then true else decide ((F95 (F117 (all.getD (Int.toNat (idxI (fun c=>((F117 c 0).toList==w5_.toList)) all)) default) 2))≥(IntKind.i64.wrap ((F119 (F117 (all.getD (Int.toNat (idxI (fun c=>((F117 c 0).toList==w5_.toList)) all)) default) 1)).1+(F119 (F117 (all.getD (Int.toNat (idxI (fun c=>((F117 c 0).toList==w5_.toList)) all)) default) 1)).2)))) else false) true (F117 (all.getD (Int.toNat (idxI (fun c=>((F117 c 0).toList==w5_.toList)) all)) default) 3) (fun k12=>have _:=of_decide_eq_true (andT1 k12); (by exact at_sz all (by assumption) _ _)) (ai (fun k13:(bif decide (doors≤6) then (bif decide ((F95 (F117 (all.getD (Int.toNat (idxI (fun c=>((F117 c 0).toList==w5_.toList)) all)) default) 2))<(F119 (F117 (all.getD (Int.toNat (idxI (fun c=>((F117 c 0).toList==w5_.toList)) all)) default) 1)).1) then true else decide ((F95 (F117 (all.getD (Int.toNat (idxI (fun c=>((F117 c 0).toList==w5_.toList)) all)) default) 2))≥(IntKind.i64.wrap ((F119 (F117 (all.getD (Int.toNat (idxI (fun c=>((F117 c 0).toList==w5_.toList)) all)) default) 1)).1+(F119 (F117 (all.getD (Int.toNat (idxI (fun c=>((F117 c 0).toList==w5_.toList)) all)) default) 1)).2)))) else false)=true=>have _:=of_decide_eq_true (andT1 k13); (by omega:ib (idxI (fun c=>((F117 c 0).toList==w5_.toList)) all) all)) (kg117 (bif decide (doors≤6) then (bif decide ((F95 (F117 (all.getD (Int.toNat (idxI (fun c=>((F117 c 0).toList==w5_.toList)) all)) default) 2))<(F119 (F117 (all.getD (Int.toNat (idxI (fun c=>((F117 c 0).toList==w5_.toList)) all)) default) 1)).1) then true else decide ((F95 (F117 (all.getD (Int.toNat (idxI (fun c=>((F117 c 0).toList==w5_.toList)) all)) default) 2))≥(IntKind.i64.wrap ((F119 (F117 (all.getD (Int.toNat (idxI (fun c=>((F117 c 0).toList==w5_.toList)) all)) default) 1)).1+(F119 (F117 (all.getD (Int.toNat (idxI (fun c=>((F117 c 0).toList==w5_.toList)) all)) default) 1)).2)))) else false) true (all.getD (Int.toNat (idxI (fun c=>((F117 c 0).toList==w5_.toList)) all)) default) 4 (fun k14=>have _:=of_decide_eq_true (andT1 k14); (by omega)) (kg123 (bif decide (doors≤6) then (bif decide ((F95 (F117 (all.getD (Int.toNat (idxI (fun c=>((F117 c 0).toList==w5_.toList)) all)) default) 2))<(F119 (F117 (all.getD (Int.toNat (idxI (fun c=>((F117 c 0).toList==w5_.toList)) all)) default) 1)).1) then true else decide ((F95 (F117 (all.getD (Int.toNat (idxI (fun c=>((F117 c 0).toList==w5_.toList)) all)) default) 2))≥(IntKind.i64.wrap ((F119 (F117 (all.getD (Int.toNat (idxI (fun c=>((F117 c 0).toList==w5_.toList)) all)) default) 1)).1+(F119 (F117 (all.getD (Int.toNat (idxI (fun c=>((F117 c 0).toList==w5_.toList)) all)) default) 1)).2)))) else false) true (F117 (all.getD (Int.toNat (idxI (fun c=>((F117 c 0).toList==w5_.toList)) all)) default) 4) (fun k15=>have _:=of_decide_eq_true (andT1 k15); (by exact at_sz all (by assumption) _ _)) (fiB (bif (bif decide (doors≤6) then (bif decide ((F95 (F117 (all.getD (Int.toNat (idxI (fun c=>((F117 c 0).toList==w5_.toList)) all)) default) 2))<(F119 (F117 (all.getD (Int.toNat (idxI (fun c=>((F117 c 0).toList==w5_.toList)) all)) default) 1)).1) then true else decide ((F95 (F117 (all.getD (Int.toNat (idxI (fun c=>((F117 c 0).toList==w5_.toList)) all)) default) 2))≥(IntKind.i64.wrap ((F119 (F117 (all.getD (Int.toNat (idxI (fun c=>((F117 c 0).toList==w5_.toList)) all)) default) 1)).1+(F119 (F117 (all.getD (Int.toNat (idxI (fun c=>((F117 c 0).toList==w5_.toList)) all)) default) 1)).2)))) else false) then decide ((F123 (F117 (all.getD (Int.toNat (idxI (fun c=>((F117 c 0).toList==w5_.toList)) all)) default) 3))≤(F123 (F117 (all.getD (Int.toNat (idxI (fun c=>((F117 c 0).toList==w5_.toList)) all)) default) 4))) else false) (F64 all) (finD hD0_8 (condF h9 rfl))))))))))))))))) (i0.1-1) i0.2.1 i0.2.2 (un64_0 all i0 hi0)))) (by kernel_rfl)
theorem getD_mapG {α β:Type} [Inhabited α] [Inhabited β] (f:α→β) (ls:List α) (i:Nat) (h:i<ls.length):(ls.map f).getD i default=f (ls.getD i default):=by
 rw [getD_lt _ (by simpa using h),getD_lt _ h,List.getElem_map]
def wsL (lines:List ByteArray):List (List ByteArray):=lines.map fun l=>(F11 l).1
def hdB (w:List ByteArray) (l:List UInt8):Bool:=(w.getD 0 default).data.toList==l
def hUser:List UInt8:=[117,115,101,114]
theorem linesL_ws (lines:List ByteArray) (h:F58 lines=0) (word:ByteArray):linesL lines word=(wsL lines).filter fun w=>hdB w word.data.toList:=by
 unfold linesL wsL
 have e:(lines.map fun l=>splitS l (⟨#[32]⟩:ByteArray))=lines.map fun l=>(F11 l).1:=List.map_congr_left fun l hl=>kept_split l ((nt_facts lines h).2 l hl)
 rw [e]; rfl
theorem any_congr_mem {α:Type} {p q:α→Bool}:∀ {xs:List α},(∀ x∈xs,p x=q x)→xs.any p=xs.any q
 | [],_=>rfl
 | x :: xs,h=>by rw [List.any_cons,List.any_cons,h x List.mem_cons_self,any_congr_mem fun y hy=>h y (List.mem_cons_of_mem _ hy)]

theorem idx_filter {α:Type} [Inhabited α] (p:α→Bool) (xs:List α):(idxI p xs<0↔xs.filter p=[])∧(0≤idxI p xs→xs.getD (idxI p xs).toNat default=(xs.filter p).getD 0 default):=by
 unfold idxI
 cases h:first (fun k=>p (xs.getD k default)) xs.length with
 | none =>
  have h1:=first_none.1 h
  refine ⟨⟨fun _=>?_,fun _=>by decide⟩,fun h=>absurd h (by decide)⟩
  rw [List.filter_eq_nil_iff]
  intro x hx
  obtain ⟨k,hk,rfl⟩:=mem_getD hx
  rw [h1 k hk]; exact Bool.false_ne_true
 | some k =>
  obtain ⟨h1,h2,h3⟩:=first_some.1 h
  have hs:xs.filter p=xs.getD k default :: (xs.drop (k+1)).filter p:=by
   have e:xs=xs.take k++xs.getD k default :: xs.drop (k+1):=by
    rw [getD_lt _ h1,← List.drop_eq_getElem_cons h1,List.take_append_drop]
   have h4:(xs.take k).filter p=[]:=by
    rw [List.filter_eq_nil_iff]
    intro x hx
    obtain ⟨j,hj,rfl⟩:=mem_getD hx
    have hl:j<k:=by rw [List.length_take] at hj; omega
    rw [List.getD_eq_getElem?_getD,List.getElem?_take,if_pos hl,← List.getD_eq_getElem?_getD]
    rw [h3 j hl]; exact Bool.false_ne_true
   conv=>lhs; rw [e]
   rw [List.filter_append,h4,List.nil_append,List.filter_cons_of_pos h2]
  refine ⟨⟨fun h=>absurd h (by show ¬ ((k:Int)<0); omega),fun h=>by rw [hs] at h; cases h⟩,fun _=>?_⟩
  rw [hs]
  show xs.getD (k:Int).toNat default=xs.getD k default
  rw [nn]
theorem cuts_sz (lines:List ByteArray) (hz:∀ k:Nat,(lines.getD k default).size≤1048576):∀ k j:Nat,(((lines.map (fun l=>(⟨(F11 l).1⟩:l52Cut))).getD k default).w.getD j default).size≤1048576:=fun k j=>by
 by_cases hk:k<lines.length
 ·rw [getD_mapG _ _ _ hk]
  exact specwords_sz (lines.getD k default) j
 ·have e:(lines.map (fun l=>(⟨(F11 l).1⟩:l52Cut))).getD k default=default:=by
   rw [List.getD_eq_getElem?_getD,List.getElem?_eq_none (by rw [List.length_map]; omega)]; rfl
  rw [e]
  exact Nat.zero_le _
theorem kc52 (lines:List ByteArray) {K_:Prop} (p0_:∀ k:Nat,(lines.getD k default).size≤1048576) (k_:K_):(∀ k:Nat,(lines.getD k default).size≤1048576)∧(Imp (.l 1 eStr lines) (.l 1 eStr lines))∧K_:=⟨p0_,Imp.refl _,k_⟩
abbrev kh52 (lines:List ByteArray):Hint false Tryz.prog:=.call 52 (S52 lines) (ok52 lines) none
theorem kc58 (lines:List ByteArray) {K_:Prop} (p0_:∀ k:Nat,(lines.getD k default).size≤1048576) (k_:K_):(∀ k:Nat,(lines.getD k default).size≤1048576)∧(Imp (.l 1 eStr lines) (.l 1 eStr lines))∧K_:=⟨p0_,Imp.refl _,k_⟩
abbrev kh58 (lines:List ByteArray):Hint true Tryz.prog:=.call 58 (S58 lines) (ok58 lines) none
theorem kc59a (lines:List ByteArray) {K_:Prop} (p0_:lines.length≤16) (p1_:∀ k:Nat,(lines.getD k default).size≤1048576) (k_:K_):(lines.length≤16∧(∀ k:Nat,(lines.getD k default).size≤1048576))∧(Imp (.l 1 eStr lines) (.l 1 eStr lines))∧K_:=⟨⟨p0_,p1_⟩,Imp.refl _,k_⟩
abbrev kh59a (lines:List ByteArray):Hint true Tryz.prog:=.call 59 (T59 (lines.map (fun l=>(⟨(F11 l).1⟩:l52Cut))) lines) (oa59 lines) none
def F19 (lines:List ByteArray):Int :=
 bif ((F58 lines) != 0) then (F58 lines) else (bif (!(F60 (lines.map (fun l=>(⟨(F11 l).1⟩:l52Cut))))) then 5 else (bif (!(F61 (lines.map (fun l=>(⟨(F11 l).1⟩:l52Cut))))) then 6 else (bif (!(F62 (lines.map (fun l=>(⟨(F11 l).1⟩:l52Cut))))) then 7 else (bif (!(F63 (lines.map (fun l=>(⟨(F11 l).1⟩:l52Cut))))) then 8 else (bif (!(F64 (lines.map (fun l=>(⟨(F11 l).1⟩:l52Cut))))) then 9 else 0)))))
def S19 (lines:List ByteArray):Spec:=⟨[.r (.c (.l 1 eStr lines))],.v (vI (F19 lines)),lines.length≤1048576∧(∀ k:Nat,(lines.getD k default).size≤1048576)⟩
theorem ok19 (lines:List ByteArray):(S19 lines).ok Tryz.prog 19 :=
 fnG_ok mixed (fn:=Tryz.f19) (ct:=.seqk [(0,0)] .no (.seq (.reg [(1,kh58 lines)]) (.seq (.seq .no (.cond (.seq .no .no) .no)) (.seq (.reg [(1,kh59a lines)]) (.seq (.blk (.seq (.reg [(1,.call 60 (S60 (lines.map (fun l=>(⟨(F11 l).1⟩:l52Cut)))) (ok60 (lines.map (fun l=>(⟨(F11 l).1⟩:l52Cut)))) none)]) (.cond (.seq .no .no) (.seq (.reg [(1,.call 61 (S61 (lines.map (fun l=>(⟨(F11 l).1⟩:l52Cut)))) (ok61 (lines.map (fun l=>(⟨(F11 l).1⟩:l52Cut)))) none)]) (.cond (.seq .no .no) (.seq (.reg [(1,.call 62 (S62 (lines.map (fun l=>(⟨(F11 l).1⟩:l52Cut)))) (ok62 (lines.map (fun l=>(⟨(F11 l).1⟩:l52Cut)))) none)]) (.cond (.seq .no .no) (.seq (.reg [(1,.call 63 (S63 (lines.map (fun l=>(⟨(F11 l).1⟩:l52Cut)))) (ok63 (lines.map (fun l=>(⟨(F11 l).1⟩:l52Cut)))) none)]) (.cond (.seq .no .no) (.seq (.reg [(1,.call 64 (S64 (lines.map (fun l=>(⟨(F11 l).1⟩:l52Cut)))) (ok64 (lines.map (fun l=>(⟨(F11 l).1⟩:l52Cut)))) none)]) (.cond (.seq .no .no) .no))))))))))) (.seq .no .no)))))) Tryz.func19 (fun (hp:lines.length≤1048576∧(∀ k:Nat,(lines.getD k default).size≤1048576))=>have hpre0:=hp.1; have hpre1:=hp.2; kn lines fun _=>kc58 lines (by first | assumption | exact hpre1 _ | exact fun k _=>hpre1 k | (intros; exact trivial) | (intros; exact Nat.zero_le _)) (ifn (F58 lines) 0 (fun h1 _=>fiI (F58 lines) (F19 lines) (condT h1 rfl)) (fun h1 _=>kc59a lines (by first | omega | assumption | (have h9:=neat_len lines (by omega); omega)) (by first | omega | assumption | (have h9:=neat_len lines (by omega); omega)) (ai trivial (ai (Imp.refl (.l 1 el52Cut (lines.map (fun l=>(⟨(F11 l).1⟩:l52Cut))))) (ifb (!(F60 (lines.map (fun l=>(⟨(F11 l).1⟩:l52Cut))))) (fun h2=>fiI 5 (F19 lines) (condF h1 (condT h2 rfl))) (fun h2=>ai trivial (ai (Imp.refl (.l 1 el52Cut (lines.map (fun l=>(⟨(F11 l).1⟩:l52Cut))))) (ifb (!(F61 (lines.map (fun l=>(⟨(F11 l).1⟩:l52Cut))))) (fun h3=>fiI 6 (F19 lines) (condF h1 (condF h2 (condT h3 rfl)))) (fun h3=>ai (by exact cuts_sz lines (by assumption):∀ k j:Nat,(((lines.map (fun l=>(⟨(F11 l).1⟩:l52Cut))).getD k default).w.getD j default).size≤1048576) (ai (Imp.refl (.l 1 el52Cut (lines.map (fun l=>(⟨(F11 l).1⟩:l52Cut))))) (ifb (!(F62 (lines.map (fun l=>(⟨(F11 l).1⟩:l52Cut))))) (fun h4=>fiI 7 (F19 lines) (condF h1 (condF h2 (condF h3 (condT h4 rfl))))) (fun h4=>ai (by exact cuts_sz lines (by assumption):∀ k j:Nat,(((lines.map (fun l=>(⟨(F11 l).1⟩:l52Cut))).getD k default).w.getD j default).size≤1048576) (ai (Imp.refl (.l 1 el52Cut (lines.map (fun l=>(⟨(F11 l).1⟩:l52Cut))))) (ifb (!(F63 (lines.map (fun l=>(⟨(F11 l).1⟩:l52Cut))))) (fun h5=>fiI 8 (F19 lines) (condF h1 (condF h2 (condF h3 (condF h4 (condT h5 rfl)))))) (fun h5=>ai (by exact cuts_sz lines (by assumption):∀ k j:Nat,(((lines.map (fun l=>(⟨(F11 l).1⟩:l52Cut))).getD k default).w.getD j default).size≤1048576) (ai (Imp.refl (.l 1 el52Cut (lines.map (fun l=>(⟨(F11 l).1⟩:l52Cut))))) (ifb (!(F64 (lines.map (fun l=>(⟨(F11 l).1⟩:l52Cut))))) (fun h6=>fiI 9 (F19 lines) (condF h1 (condF h2 (condF h3 (condF h4 (condF h5 (condT h6 rfl))))))) (fun h6=>fiI 0 (F19 lines) (condF h1 (condF h2 (condF h3 (condF h4 (condF h5 (condF h6 rfl))))))))))))))))))))))))) (by kernel_rfl)
theorem check_len (lines:List ByteArray) (h:F19 lines=0):lines.length≤16:=by
 unfold F19 at h
 cases hn:(F58 lines != 0) with
 | true=>rw [hn,cond_true] at h; rw [h] at hn; exact absurd hn (by decide)
 | false=>exact neat_len lines (by simpa using hn)


end Go.Proofs.YtabmhncnckahfaaGreatDoor
