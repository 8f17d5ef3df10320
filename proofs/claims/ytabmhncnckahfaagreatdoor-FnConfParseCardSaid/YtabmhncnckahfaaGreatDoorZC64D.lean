/- A part of the proof of FnConfParse. Texts put together: VFF, PFF, PCL0, VCL, PCL, PK0, VK, PK1, VK2, PK2, PLP, VN0, PN0, VN, PN1N, PCK0, VCKA, PCKB, VCKC. -/
import Derived.Test.YtabmhncnckahfaaGreatDoorRows
import Derived.Test.YtabmhncnckahfaaGreatDoorZC64C
namespace Go.Proofs.YtabmhncnckahfaaGreatDoor
open Go.RowKit
set_option maxRecDepth 100000
set_option linter.unusedVariables false
set_option linter.unusedSimpArgs false
theorem kc115 (word:Za) {K_:Prop} (p0_:word.size<=1048576) (k_:K_):(word.size<=1048576)/\(Imp (.v (.string word)) (.v (.string word)))/\K_:=⟨p0_,Imp.refl _,k_⟩
abbrev kh115 (word:Za):Hint false Tryz.prog:=.call 115 (S115 word) (ok115 word) none
def F165 (word:Za) (p1:Int) (p2:Int):Bool :=
 (decide (p1<=(F115 word)/\(F115 word)<=p2))
def S165 (word:Za) (p1:Int) (p2:Int):Spec:=⟨[.r (.c (.v (.string word))),.rp ([.v (vI p1)]),.rp ([.v (vI p2)])],.v (.bool (F165 word p1 p2)),word.size<=1048576⟩
theorem ok165 (word:Za) (p1:Int) (p2:Int):(S165 word p1 p2).ok Tryz.prog 165 false :=
 fnG_ok mixed (fn:=Tryz.f165) (ct:=.seq .no (.seq (.reg [(1,kh115 word),(4,kh39af (F115 word) p1 p2)]) .no)) Tryz.func165 (fun (hpre0:word.size<=1048576)=>kc115 word uu0 (kc39a (F115 word) p1 p2 (fiB (decide (p1<=(F115 word)/\(F115 word)<=p2)) (F165 word p1 p2) rfl))) uu3
def F133 (low:Int) (high:Int):Unit :=
 ()
def S133 (low:Int) (high:Int):Spec:=⟨[.r (.c (.v (vI low))),.r (.c (.v (vI high)))],.cl 165 [.pt 3 [.v (vI low)],.pt 3 [.v (vI high)]],True⟩
theorem ok133 (low:Int) (high:Int):(S133 low high).ok Tryz.prog 133 :=
 fnG_ok mixed (fn:=Tryz.f133) (ct:=.seq .no (.seq .no .no)) Tryz.func133 (fun (_:True)=>(fun hF:(():Unit)=(F133 low high)=>ai (Imps.refl [.v (vI low)]) (ai (Imps.refl [.v (vI high)]) trivial)) rfl) uu3
def F166 (word:Za) (p1:List Za):Bool :=
 (F75 p1 word)
def S166 (word:Za) (p1:List Za):Spec:=⟨[.r (.c (.v (.string word))),.rp ([.l 1 eStr p1])],.v (.bool (F166 word p1)),word.size<=1048576⟩
theorem ok166 (word:Za) (p1:List Za):(S166 word p1).ok Tryz.prog 166 :=
 fnG_ok mixed (fn:=Tryz.f166) (ct:=.seq .no (.seq (.reg [(2,kh75 p1 word)]) .no)) Tryz.func166 (fun (hpre0:word.size<=1048576)=>kc75 p1 word (fiB (F75 p1 word) (F166 word p1) rfl)) uu3
def F137 (words:List Za):Unit :=
 ()
def S137 (words:List Za):Spec:=⟨[.ow (.l 1 eStr words) none],.cl 166 [.pt 26 [.l 1 eStr words]],True⟩
theorem ok137 (words:List Za):(S137 words).ok Tryz.prog 137 :=
 fnG_ok mixed (fn:=Tryz.f137) (ct:=.seq .no (.seq .no .no)) Tryz.func137 (fun (_:True)=>(fun hF:(():Unit)=(F137 words)=>ai (Imps.refl [.l 1 eStr words]) trivial) rfl) uu3
structure formR where
 word:Za
 key:Int
 checks:SV
 deriving Inhabited
def eformR (x:formR):List Dat:=[.v (.string x.word),.v (vI x.key),.v (sv x.checks)]
def F140 (f:formR) (p1:Za):Bool :=
 (!(f.word.toList==p1.toList))
def S140 (f:formR) (p1:Za):Spec:=⟨[.r (.g (eformR f)),.rp ([.v (.string p1)])],.v (.bool (F140 f p1)),True⟩
theorem ok140 (f:formR) (p1:Za):(S140 f p1).ok Tryz.prog 140 :=
 fnG_ok mixed (fn:=Tryz.f140) (ct:=.seq .no (.seq .no .no)) Tryz.func140 (fun (_:True)=>(fun hF:((!(f.word.toList==p1.toList)):Bool)=(F140 f p1)=>ai (Qh (fun r:Bool=>(.bool r:Value)) hF) trivial) rfl) uu3
def fsQ131 (Q:formR->Prop) (p:formR->Bool):FnSpec:=⟨formR,fun i=>[.g (pxH (eformR i) (Q i))],fun i=>.bool (p i)⟩
def F167_s0 (s:List formR) (f:formR->Bool):Int->Lp Int Int:=fun v8 =>
 bif (decide (v8<(s.length:Int))) then (bif (f (s.getD v8.toNat default)) then (.ret v8) else (.next (v8+1))) else (.done v8)
def F167 (s:List formR) (f:formR->Bool):Int :=
 (runL (F167_s0 s f) (((s.length:Int)-0).toNat+1) 0).fin (fun r=>r) (fun v8=>(-1))
def S167 (R:Int) (s:List formR) (f:formR->Bool) (Qf:formR->Prop):Spec:=⟨[.r (.c (.l 3 eformR s)),.fn (fsQ131 Qf f)],.v (vI R),(∀ k:Nat,k<s.length->Qf (s.getD k default))⟩
theorem ok167 (s:List formR) (f:formR->Bool) (Qf:formR->Prop):(S167 (F167 s f) s f Qf).ok Tryz.prog 167 false :=
 fnG_ok mixed (fn:=Tryz.f167) (ct:=.seqk [(0,0)] .no (.seq (.seqk [(0,0)] .no (.blk (.loop (ι:=Nat×Int) (fun i=>(fun (v8:Int)=>(⟨[(0,some (.h 0 0)),(1,some (.h 1 0)),(7,some (.v (vI (s.length:Int)))),(8,some (.v (vI v8)))],[(0,some (.shr none (.l 3 eformR s))),(1,some (.fn (fsQ131 Qf f)))],2⟩:St)) i.2) (fun i=>runL (F167_s0 s f) i.1 i.2=(runL (F167_s0 s f) (((s.length:Int)-0).toNat+1) 0)/\(fun (v8:Int)=>(Int.toNat ((s.length:Int)-v8)<i.1/\(0:Int)<=v8)) i.2) (fun i=>i.1) ((((s.length:Int)-0).toNat+1),0) (fun i=>(fun (v8:Int)=>(.seq .no (.seq (.cond .no .no) (.seq (.blk (.seq .no (.seq (.reg [(5,.fnv (fsQ131 Qf f) (s.getD v8.toNat default))]) (.cond (.seq .no .no) .no)))) (.reg [(0,.bnd)]))))) i.2)))) (.seq .no .no))) Tryz.func167 (fun (hpre0:∀ k:Nat,k<s.length->Qf (s.getD k default))=>kn s fun _=>kn s fun _=>ai (ai rfl (ai rfl (ai ir (ai rfl (ai (rfl:runL (F167_s0 s f) (((s.length:Int)-0).toNat+1) 0=(runL (F167_s0 s f) (((s.length:Int)-0).toNat+1) 0)) (ai (Qr _:Int.toNat ((s.length:Int)-0)<(((s.length:Int)-0).toNat+1)) (uu0:(0:Int)<=0)))))):((.int .i64 (s.length:Int):Value)=.int .i64 (s.length:Int))/\((.int .i64 0:Value)=.int .i64 0)/\(Imp (.l 3 eformR s) (.l 3 eformR s))/\(fsQ131 Qf f=fsQ131 Qf f)/\(runL (F167_s0 s f) (((s.length:Int)-0).toNat+1) 0=(runL (F167_s0 s f) (((s.length:Int)-0).toNat+1) 0)/\Int.toNat ((s.length:Int)-0)<(((s.length:Int)-0).toNat+1)/\(0:Int)<=0)) (fun (i0:Nat×Int) (hi0:runL (F167_s0 s f) i0.1 i0.2=(runL (F167_s0 s f) (((s.length:Int)-0).toNat+1) 0)/\(fun (v8:Int)=>(Int.toNat ((s.length:Int)-v8)<i0.1/\(0:Int)<=v8)) i0.2)=>(fun (m0:Nat) (v8:Int) (hI0:runL (F167_s0 s f) (m0+1) v8=(runL (F167_s0 s f) (((s.length:Int)-0).toNat+1) 0)) (_:Int.toNat ((s.length:Int)-v8)<m0+1) (hl0:m0<i0.1) (_:(0:Int)<=v8)=>ifd (v8<(s.length:Int)) (fun h2 _=>ai (uu0:ib v8 s) (ai (Eq.refl (fsQ131 Qf f)) (ai (Imps.pxH (ds:=eformR (s.getD v8.toNat default)) (hpre0 v8.toNat uu0)) (ifb (f (s.getD v8.toNat default)) (fun h3=>(fun hF:(v8:Int)=(F167 s f)=>ai (Qh (fun r:Int=>(.int .i64 r:Value)) hF) trivial) (finR (runL_ret hI0 (condT h2 (condT h3 rfl))) rfl)) (fun h3=>ai (iok (v8+1) uu0) (Exists.intro (p:=fun j:Nat×Int=>(fun (v8_:Int)=>(((.int .i64 (s.length:Int):Value)=.int .i64 (s.length:Int))/\((.int .i64 (v8+1):Value)=.int .i64 v8_)/\(Imp (.l 3 eformR s) (.l 3 eformR s))/\(fsQ131 Qf f=fsQ131 Qf f)/\((runL (F167_s0 s f) j.1 j.2=(runL (F167_s0 s f) (((s.length:Int)-0).toNat+1) 0)/\Int.toNat ((s.length:Int)-v8_)<j.1/\(0:Int)<=v8_)/\j.1<i0.1))) j.2) (m0,(v8+1)) (ai rfl (ai rfl (ai ir (ai rfl (ai (ai (runL_next hI0 (condT h2 (condF h3 rfl))) (ai (uu0:Int.toNat ((s.length:Int)-(v8+1))<m0) (uu0:(0:Int)<=(v8+1)))) hl0))))))))))) (fun h2 _=>(fun hD0_4:(runL (F167_s0 s f) (((s.length:Int)-0).toNat+1) 0)=Lp.done v8=>(fun hF:((-1):Int)=(F167 s f)=>ai (Qh (fun r:Int=>(.int .i64 r:Value)) hF) trivial) (finD hD0_4 rfl)) (runL_done hI0 (condF h2 rfl)))) (i0.1-1) i0.2 (hd1 hi0.1 hi0.2.1) (hd2 hi0.2.1) (hd3 hi0.2.1) hi0.2.2)) uu3
theorem as167 (s:List formR) (f:formR->Bool):F167 s f=(idxI f s):=by
 exact idx_loop f s (F167_s0 s f) (fun i=>rfl)
theorem oa167 (s:List formR) (f:formR->Bool) (Qf:formR->Prop):(S167 (idxI f s) s f Qf).ok Tryz.prog 167 false:=by
 intro hp; have h:=ok167 s f Qf hp; rw [as167 s f] at h; exact h
theorem g167_0 (s:List formR) (f:formR->Bool):(idxI f s)<(s.length:Int):=by
 exact idxI_lt f s
theorem g167_1 (s:List formR) (f:formR->Bool):-1<=(idxI f s):=by
 (show -1<=idxI f s; unfold idxI; cases first (fun k=>f (s.getD k default)) s.length <;> simp only [oix] <;> omega)
def F139_s0 (s:List formR) (del:formR->Bool):(Int×Int×List formR)->Lp (Int×Int×List formR) (List formR):=fun (i41,j1,xs) =>
 bif (decide (j1<(xs.length:Int))) then (bif (!(del (xs.getD j1.toNat default))) then (.next ((i41+1),(j1+1),(xs.set (i41).toNat (xs.getD j1.toNat default)))) else (.next (i41,(j1+1),xs))) else (.done (i41,j1,xs))
def F139_j0 (s:List formR) (del:formR->Bool):Lp (List formR×Int) (List formR) :=
 (runL (F139_s0 s del) (((s.length:Int)-((idxI del s)+1)).toNat+1) ((idxI del s),((idxI del s)+1),s)).fin Lp.ret (fun (i41,j1,xs)=>.done (xs,i41))
def F139 (s:List formR) (del:formR->Bool):List formR :=
 bif ((idxI del s)==(-1)) then s else ((F139_j0 s del).fin (fun r=>r) (fun (s1,i40)=>((s1.take i40.toNat++List.replicate (s1.drop i40.toNat).length ((⟨Zf,0,(⟨none,0,0⟩:SV)⟩:formR):formR)++s1.drop (i40.toNat+(s1.drop i40.toNat).length)).take i40.toNat)))
def S139 (R:List formR) (s:List formR) (del:formR->Bool) (Qdel:formR->Prop):Spec:=⟨[.ow (.l 3 eformR s) none,.fn (fsQ131 Qdel del)],.ow (.l 3 eformR R),s.length<=1000000000/\(∀ k:Nat,k<s.length->Qdel (s.getD k default))⟩
abbrev q139_1 (xs:List formR) (i41:Int) (j1:Int):=(xs.set (i41).toNat (xs.getD j1.toNat default))
theorem ok139 (s:List formR) (del:formR->Bool) (Qdel:formR->Prop):(S139 (F139 s del) s del Qdel).ok Tryz.prog 139 false :=
 fnG_ok mixed (fn:=Tryz.f139) (ct:=.seqk [(0,0)] .no (.seq (.reg [(2,.call 167 (S167 (idxI del s) s del Qdel) (oa167 s del Qdel) none)]) (.seq (.seq .no (.cond (.seq .no .no) .no)) (.cut (ι:=List formR×Int) (fun j=>(fun (s1:List formR) (i40:Int)=>(⟨[(0,some (.h 0 0)),(5,some (.v (vI i40)))],[(0,some (.own 0 (.l 3 eformR s1)))],1⟩:St)) j.1 j.2) (fun j=>(fun (s1:List formR) (i40:Int)=>((F139_j0 s del)=Lp.done j/\(0<=i40/\i40<=(s1.length:Int)))) j.1 j.2) (.seqk [(0,0)] (.reg [(1,.bnd)]) (.blk (.loop (ι:=Nat×(Int×Int×List formR)) (fun i=>(fun (i41:Int) (j1:Int) (xs:List formR)=>(⟨[(0,some (.h 0 0)),(1,some (.h 1 0)),(5,some (.v (vI i41))),(6,some (.v (vI j1)))],[(0,some (.own 0 (.l 3 eformR xs))),(1,some (.fn (fsQ131 Qdel del)))],2⟩:St)) i.2.1 i.2.2.1 i.2.2.2) (fun i=>runL (F139_s0 s del) i.1 i.2=(runL (F139_s0 s del) (((s.length:Int)-((idxI del s)+1)).toNat+1) ((idxI del s),((idxI del s)+1),s))/\(fun (i41:Int) (j1:Int) (xs:List formR)=>(Int.toNat ((xs.length:Int)-j1)<i.1/\(0<=i41/\i41<j1)/\j1<=(xs.length:Int)/\xs.length<=1000000000/\(∀ k:Nat,j1<=(k:Int)->k<xs.length->Qdel (xs.getD k default))/\xs.length=s.length)) i.2.1 i.2.2.1 i.2.2.2) (fun i=>i.1) ((((s.length:Int)-((idxI del s)+1)).toNat+1),((idxI del s),((idxI del s)+1),s)) (fun i=>(fun (i41:Int) (j1:Int) (xs:List formR)=>(.seq (.seq .no (.cond .no .no)) (.seq (.blk (.seq .no (.seq (.reg [(2,.fnv (fsQ131 Qdel del) (xs.getD j1.toNat default))]) (.cond (.seq (.reg [(4,.dat (.l 3 eformR (q139_1 xs i41 j1)))]) (.reg [(1,.bnd)])) .no)))) (.reg [(1,.bnd)])))) i.2.1 i.2.2.1 i.2.2.2)))) (fun j=>(fun (s1:List formR) (i40:Int)=>(.seq (.reg [(2,.part),(3,.dat (.l 3 eformR (s1.take i40.toNat++List.replicate (s1.drop i40.toNat).length ((⟨Zf,0,(⟨none,0,0⟩:SV)⟩:formR):formR)++s1.drop (i40.toNat+(s1.drop i40.toNat).length))))]) (.seq (.reg [(2,.own)]) .no))) j.1 j.2))))) Tryz.func139 (fun (hp:s.length<=1000000000/\(∀ k:Nat,k<s.length->Qdel (s.getD k default)))=>have hpre0:=hp.1; have hpre1:=hp.2; kn s fun _=>ai (uu9:∀ k:Nat,k<s.length->Qdel (s.getD k default)) (ai (Imp.refl (.l 3 eformR s)) (ai (Eq.refl (fsQ131 Qdel del)) (have gv1:(idxI del s)<(s.length:Int):=g167_0 s del; have gv2:-1<=(idxI del s):=g167_1 s del; ife (idxI del s) (-1) (fun h3 _=>(fun hF:(s:List formR)=(F139 s del)=>ai (Imp.of_eq (Qh (fun r:List formR=>Dat.l 3 eformR r) hF)) trivial) (condT h3 rfl)) (fun h3 _=>ai (ai (iok ((idxI del s)+1) uu0) (kn s fun _=>ai (ai rfl (ai rfl (ai ir (ai rfl (ai (rfl:runL (F139_s0 s del) (((s.length:Int)-((idxI del s)+1)).toNat+1) ((idxI del s),((idxI del s)+1),s)=(runL (F139_s0 s del) (((s.length:Int)-((idxI del s)+1)).toNat+1) ((idxI del s),((idxI del s)+1),s))) (ai (Qr _:Int.toNat ((s.length:Int)-((idxI del s)+1))<(((s.length:Int)-((idxI del s)+1)).toNat+1)) (ai (uu0:0<=(idxI del s)/\(idxI del s)<((idxI del s)+1)) (ai (uu0:((idxI del s)+1)<=(s.length:Int)) (ai (uu0:s.length<=1000000000) (ai (by (intro k hk hk2; exact (by assumption:∀ k:Nat,k<s.length->Qdel (s.getD k default)) k hk2):∀ k:Nat,((idxI del s)+1)<=(k:Int)->k<s.length->Qdel (s.getD k default)) (uu0:s.length=s.length)))))))))):((.int .i64 (idxI del s):Value)=.int .i64 (idxI del s))/\((.int .i64 ((idxI del s)+1):Value)=.int .i64 ((idxI del s)+1))/\(Imp (.l 3 eformR s) (.l 3 eformR s))/\(fsQ131 Qdel del=fsQ131 Qdel del)/\(runL (F139_s0 s del) (((s.length:Int)-((idxI del s)+1)).toNat+1) ((idxI del s),((idxI del s)+1),s)=(runL (F139_s0 s del) (((s.length:Int)-((idxI del s)+1)).toNat+1) ((idxI del s),((idxI del s)+1),s))/\Int.toNat ((s.length:Int)-((idxI del s)+1))<(((s.length:Int)-((idxI del s)+1)).toNat+1)/\(0<=(idxI del s)/\(idxI del s)<((idxI del s)+1))/\((idxI del s)+1)<=(s.length:Int)/\s.length<=1000000000/\(∀ k:Nat,((idxI del s)+1)<=(k:Int)->k<s.length->Qdel (s.getD k default))/\s.length=s.length)) (fun (i0:Nat×(Int×Int×List formR)) (hi0:runL (F139_s0 s del) i0.1 i0.2=(runL (F139_s0 s del) (((s.length:Int)-((idxI del s)+1)).toNat+1) ((idxI del s),((idxI del s)+1),s))/\(fun (i41:Int) (j1:Int) (xs:List formR)=>(Int.toNat ((xs.length:Int)-j1)<i0.1/\(0<=i41/\i41<j1)/\j1<=(xs.length:Int)/\xs.length<=1000000000/\(∀ k:Nat,j1<=(k:Int)->k<xs.length->Qdel (xs.getD k default))/\xs.length=s.length)) i0.2.1 i0.2.2.1 i0.2.2.2)=>(fun (m0:Nat) (i41:Int) (j1:Int) (xs:List formR) (hI0:runL (F139_s0 s del) (m0+1) (i41,j1,xs)=(runL (F139_s0 s del) (((s.length:Int)-((idxI del s)+1)).toNat+1) ((idxI del s),((idxI del s)+1),s))) (_:Int.toNat ((xs.length:Int)-j1)<m0+1) (hl0:m0<i0.1) (_:0<=i41/\i41<j1) (_:j1<=(xs.length:Int)) (_:xs.length<=1000000000) (_:∀ k:Nat,j1<=(k:Int)->k<xs.length->Qdel (xs.getD k default)) (_:xs.length=s.length)=>ifd (j1<(xs.length:Int)) (fun h5 _=>ai (uu0:ib j1 xs) (ai (Eq.refl (fsQ131 Qdel del)) (ai (Imps.pxH (ds:=eformR (xs.getD j1.toNat default)) ((uu9:∀ k:Nat,j1<=(k:Int)->k<xs.length->Qdel (xs.getD k default)) j1.toNat uu0 uu0)) (ifb (!(del (xs.getD j1.toNat default))) (fun h6=>have _:=(notET h6); ai (uu0:ib i41 xs) (ai (setr 3 eformR xs (i41).toNat (xs.getD j1.toNat default)) (ai (iok (i41+1) uu0) (ai (iok (j1+1) uu0) (Exists.intro (p:=fun j:Nat×(Int×Int×List formR)=>(fun (i41_:Int) (j1_:Int) (xs_:List formR)=>(((.int .i64 (i41+1):Value)=.int .i64 i41_)/\((.int .i64 (j1+1):Value)=.int .i64 j1_)/\(Imp (.l 3 eformR (q139_1 xs i41 j1)) (.l 3 eformR xs_))/\(fsQ131 Qdel del=fsQ131 Qdel del)/\((runL (F139_s0 s del) j.1 j.2=(runL (F139_s0 s del) (((s.length:Int)-((idxI del s)+1)).toNat+1) ((idxI del s),((idxI del s)+1),s))/\Int.toNat ((xs_.length:Int)-j1_)<j.1/\(0<=i41_/\i41_<j1_)/\j1_<=(xs_.length:Int)/\xs_.length<=1000000000/\(∀ k:Nat,j1_<=(k:Int)->k<xs_.length->Qdel (xs_.getD k default))/\xs_.length=s.length)/\j.1<i0.1))) j.2.1 j.2.2.1 j.2.2.2) (m0,((i41+1),(j1+1),(q139_1 xs i41 j1))) (ai rfl (ai rfl (ai ir (ai rfl (ai (ai (runL_next hI0 (condT h5 (condT h6 rfl))) (ai (uu31:Int.toNat (((q139_1 xs i41 j1).length:Int)-(j1+1))<m0) (ai (uu0:0<=(i41+1)/\(i41+1)<(j1+1)) (ai (uu31:(j1+1)<=((q139_1 xs i41 j1).length:Int)) (ai (uu31:(q139_1 xs i41 j1).length<=1000000000) (ai (by (intro k hk hk2; (rw [getD_set_ne _ _ _ _ (by omega)]; exact (by assumption:∀ k:Nat,j1<=(k:Int)->k<xs.length->Qdel (xs.getD k default)) k (by omega) (by simpa using hk2))):∀ k:Nat,(j1+1)<=(k:Int)->k<(q139_1 xs i41 j1).length->Qdel ((q139_1 xs i41 j1).getD k default)) (uu31:(q139_1 xs i41 j1).length=s.length))))))) hl0)))))))))) (fun h6=>have _:=(notEF h6); ai (iok (j1+1) uu0) (Exists.intro (p:=fun j:Nat×(Int×Int×List formR)=>(fun (i41_:Int) (j1_:Int) (xs_:List formR)=>(((.int .i64 i41:Value)=.int .i64 i41_)/\((.int .i64 (j1+1):Value)=.int .i64 j1_)/\(Imp (.l 3 eformR xs) (.l 3 eformR xs_))/\(fsQ131 Qdel del=fsQ131 Qdel del)/\((runL (F139_s0 s del) j.1 j.2=(runL (F139_s0 s del) (((s.length:Int)-((idxI del s)+1)).toNat+1) ((idxI del s),((idxI del s)+1),s))/\Int.toNat ((xs_.length:Int)-j1_)<j.1/\(0<=i41_/\i41_<j1_)/\j1_<=(xs_.length:Int)/\xs_.length<=1000000000/\(∀ k:Nat,j1_<=(k:Int)->k<xs_.length->Qdel (xs_.getD k default))/\xs_.length=s.length)/\j.1<i0.1))) j.2.1 j.2.2.1 j.2.2.2) (m0,(i41,(j1+1),xs)) (ai rfl (ai rfl (ai ir (ai rfl (ai (ai (runL_next hI0 (condT h5 (condF h6 rfl))) (ai (uu0:Int.toNat ((xs.length:Int)-(j1+1))<m0) (ai (uu0:0<=i41/\i41<(j1+1)) (ai (uu0:(j1+1)<=(xs.length:Int)) (ai (uu0:xs.length<=1000000000) (ai (by (intro k hk hk2; exact (by assumption:∀ k:Nat,j1<=(k:Int)->k<xs.length->Qdel (xs.getD k default)) k (by omega) hk2):∀ k:Nat,(j1+1)<=(k:Int)->k<xs.length->Qdel (xs.getD k default)) (uu0:xs.length=s.length))))))) hl0))))))))))) (fun h5 _=>(fun hD0_7:(runL (F139_s0 s del) (((s.length:Int)-((idxI del s)+1)).toNat+1) ((idxI del s),((idxI del s)+1),s))=Lp.done (i41,j1,xs)=>Exists.intro (p:=fun j:List formR×Int=>(fun (s1_:List formR) (i40_:Int)=>(((.int .i64 i41:Value)=.int .i64 i40_)/\(Imp (.l 3 eformR xs) (.l 3 eformR s1_))/\(F139_j0 s del)=Lp.done j/\(0<=i40_/\i40_<=(s1_.length:Int)))) j.1 j.2) (xs,i41) (ai rfl (ai ir (ai (S5 (finD hD0_7 rfl)) (uu0:0<=i41/\i41<=(xs.length:Int)))))) (runL_done hI0 (condF h5 rfl)))) (i0.1-1) i0.2.1 i0.2.2.1 i0.2.2.2 (hd1 hi0.1 hi0.2.1) (hd2 hi0.2.1) (hd3 hi0.2.1) hi0.2.2.1 hi0.2.2.2.1 hi0.2.2.2.2.1 hi0.2.2.2.2.2.1 hi0.2.2.2.2.2.2))) (fun (j:List formR×Int) (hj:(fun (s1:List formR) (i40:Int)=>((F139_j0 s del)=Lp.done j/\(0<=i40/\i40<=(s1.length:Int)))) j.1 j.2)=>(fun (s1:List formR) (i40:Int) (hJ0_8:(F139_j0 s del)=Lp.done (s1,i40)) (_:0<=i40/\i40<=(s1.length:Int))=>ai (uu0:0<=i40/\i40<=(s1.length:Int)/\(s1.length:Int)<=(s1.length:Int)) (ai (ClearOK.mk eformR s1 ((⟨Zf,0,(⟨none,0,0⟩:SV)⟩:formR):formR) rfl (fun y e he=>by simp only [eformR,Qt,Rl,Gy] at he; rcases he with rfl | rfl | rfl <;> exact ⟨_,rfl⟩):ClearOK (.l 3 eformR s1) i40.toNat (s1.drop i40.toNat).length 3 [.string Zf,.int .i64 0,.slice none 0 0] (.l 3 eformR (s1.take i40.toNat++List.replicate (s1.drop i40.toNat).length ((⟨Zf,0,(⟨none,0,0⟩:SV)⟩:formR):formR)++s1.drop (i40.toNat+(s1.drop i40.toNat).length)))) (ai (uu31:0<=(0:Int)/\(0:Int)<=i40/\i40<=((s1.take i40.toNat++List.replicate (s1.drop i40.toNat).length ((⟨Zf,0,(⟨none,0,0⟩:SV)⟩:formR):formR)++s1.drop (i40.toNat+(s1.drop i40.toNat).length)).length:Int)) ((fun hF:(((s1.take i40.toNat++List.replicate (s1.drop i40.toNat).length ((⟨Zf,0,(⟨none,0,0⟩:SV)⟩:formR):formR)++s1.drop (i40.toNat+(s1.drop i40.toNat).length)).take i40.toNat):List formR)=(F139 s del)=>ai (Imp.of_eq (Qh (fun r:List formR=>Dat.l 3 eformR r) hF)) trivial) (condF h3 (finD hJ0_8 rfl)))))) j.1 j.2 hj.1 hj.2)))))) uu3
theorem as139 (s:List formR) (del:formR->Bool):F139 s del=(s.filter (fun x=>!(del x))):=by
 exact del_loop del s _ (F139_s0 s del) (fun i j xs=>rfl)
theorem oa139 (s:List formR) (del:formR->Bool) (Qdel:formR->Prop):(S139 (s.filter (fun x=>!(del x))) s del Qdel).ok Tryz.prog 139 false:=by
 intro hp; have h:=ok139 s del Qdel hp; rw [as139 s del] at h; exact h
def fsB64 (p:Za->Bool):FnSpec:=⟨Za,fun i=>[.c (.x (BX i 1048576))],fun i=>.bool (p i)⟩
def eFn64 (p:Za->Bool):List Dat:=[.x (FnX Tryz.prog (fsB64 p))]
structure form where
 word:Za
 key:Int
 checks:List (Za->Bool)
 deriving Inhabited
def eform (x:form):List Dat:=[.v (.string x.word),.v (vI x.key),.l 1 eFn64 x.checks]
theorem kc133 (low:Int) (high:Int) {K_:Prop} (k_:K_):(True)/\(Imp (.v (vI low)) (.v (vI low)))/\(Imp (.v (vI high)) (.v (vI high)))/\K_:=⟨trivial,Imp.refl _,Imp.refl _,k_⟩
theorem kc137 (words:List Za) {K_:Prop} (k_:K_):(True)/\(Imp (.l 1 eStr words) (.l 1 eStr words))/\K_:=⟨trivial,Imp.refl _,k_⟩
abbrev kh133f (low:Int) (high:Int):Hint false Tryz.prog:=.call 133 (S133 low high) ((ok133 low high).to false) none
abbrev kh137f (words:List Za):Hint false Tryz.prog:=.call 137 (S137 words) ((ok137 words).to false) none
def raw87 (x:Nat->SV):List formR:=[⟨Zq,1,x 0⟩,⟨Zk,2,x 1⟩,⟨Ze,2,x 2⟩,⟨Ze,2,x 3⟩,⟨Zg,3,x 4⟩,⟨Zi,3,x 5⟩,⟨Zh,2,x 6⟩,⟨Zc,1,x 7⟩,⟨Zb,3,x 8⟩]
abbrev We:List Za:=[Z0]
abbrev X3:List Za:=[Zs,Zt]
def all87:List form:=[⟨Zq,1,[(fun x0=>F134 x0)]⟩,⟨Zk,2,[(fun x0=>F134 x0),(fun x0=>F135 x0)]⟩,⟨Ze,2,[(fun x0=>F165 x0 0 7),(fun x0=>F136 x0)]⟩,⟨Ze,2,[(fun x0=>F165 x0 0 7),(fun x0=>F136 x0),(fun x0=>F166 x0 We),(fun x0=>F134 x0)]⟩,⟨Zg,3,[(fun x0=>F134 x0),(fun x0=>F165 x0 0 99),(fun x0=>F166 x0 X3),(fun x0=>F136 x0),(fun x0=>F136 x0),(fun x0=>F165 x0 0 7)]⟩,⟨Zi,3,[(fun x0=>F136 x0),(fun x0=>F138 x0)]⟩,⟨Zh,2,[(fun x0=>F138 x0),(fun x0=>F165 x0 1 9),(fun x0=>F165 x0 1 999999)]⟩,⟨Zc,1,[(fun x0=>F136 x0),(fun x0=>F138 x0),(fun x0=>F165 x0 1 65535),(fun x0=>F165 x0 1 65535)]⟩,⟨Zb,3,[(fun x0=>F165 x0 1 7),(fun x0=>F165 x0 1 65535),(fun x0=>F138 x0),(fun x0=>F165 x0 1 65535)]⟩]
def know87 (x:Nat->SV):List (Value×Dat):=[(sv (x 0),.l 1 eFn64 [(fun x0=>F134 x0)]),(sv (x 1),.l 1 eFn64 [(fun x0=>F134 x0),(fun x0=>F135 x0)]),(sv (x 2),.l 1 eFn64 [(fun x0=>F165 x0 0 7),(fun x0=>F136 x0)]),(sv (x 3),.l 1 eFn64 [(fun x0=>F165 x0 0 7),(fun x0=>F136 x0),(fun x0=>F166 x0 We),(fun x0=>F134 x0)]),(sv (x 4),.l 1 eFn64 [(fun x0=>F134 x0),(fun x0=>F165 x0 0 99),(fun x0=>F166 x0 X3),(fun x0=>F136 x0),(fun x0=>F136 x0),(fun x0=>F165 x0 0 7)]),(sv (x 5),.l 1 eFn64 [(fun x0=>F136 x0),(fun x0=>F138 x0)]),(sv (x 6),.l 1 eFn64 [(fun x0=>F138 x0),(fun x0=>F165 x0 1 9),(fun x0=>F165 x0 1 999999)]),(sv (x 7),.l 1 eFn64 [(fun x0=>F136 x0),(fun x0=>F138 x0),(fun x0=>F165 x0 1 65535),(fun x0=>F165 x0 1 65535)]),(sv (x 8),.l 1 eFn64 [(fun x0=>F165 x0 1 7),(fun x0=>F165 x0 1 65535),(fun x0=>F138 x0),(fun x0=>F165 x0 1 65535)])]
def fh134:FnH Tryz.prog:=⟨true,134,fsB64 (fun x0=>F134 x0),[],rfl,True,fun i=>ok_bx (ok134 i)⟩
theorem ca134:callable Tryz.prog 134=true:=by kernel_rfl
def fh135:FnH Tryz.prog:=⟨true,135,fsB64 (fun x0=>F135 x0),[],rfl,True,fun i=>ok_bx (ok135 i)⟩
theorem ca135:callable Tryz.prog 135=true:=by kernel_rfl
def fh136:FnH Tryz.prog:=⟨false,136,fsB64 (fun x0=>F136 x0),[],rfl,True,fun i=>ok_bx (ok136 i)⟩
theorem ca136:callable Tryz.prog 136=true:=by kernel_rfl
def fh138:FnH Tryz.prog:=⟨false,138,fsB64 (fun x0=>F138 x0),[],rfl,True,fun i=>ok_bx (ok138 i)⟩
theorem ca138:callable Tryz.prog 138=true:=by kernel_rfl
def fh165 (a b:Int):FnH Tryz.prog:=⟨false,165,fsB64 (fun x0=>F165 x0 a b),[.rp [.v (vI a)],.rp [.v (vI b)]],rfl,True,fun i=>ok_bx (ok165 i a b)⟩
theorem ca165:callable Tryz.prog 165=true:=by kernel_rfl
def fh166 (l:List Za):FnH Tryz.prog:=⟨true,166,fsB64 (fun x0=>F166 x0 l),[.rp [.l 1 eStr l]],rfl,True,fun i=>ok_bx (ok166 i l)⟩
theorem ca166:callable Tryz.prog 166=true:=by kernel_rfl
theorem hk87_0 (word:Za):HandOK Tryz.prog 45 (fun _:Unit=>(⟨[(1,some (.p 0 0)),(5,some (.h 1 0)),(8,some (.h 2 0))],[(0,some (.box 9 [.v (.string word)])),(1,some (.arr 9 [.v (.string Zq),.v (vI 1),.h 2 0,.v (.string Zk),.v (vI 2),.h 3 0,.v (.string Ze),.v (vI 2),.h 4 0,.v (.string Ze),.v (vI 2),.h 7 0,.v (.string Zg),.v (vI 3),.h 12 0,.v (.string Zi),.v (vI 3),.h 19 0,.v (.string Zh),.v (vI 2),.h 20 0,.v (.string Zc),.v (vI 1),.h 25 0,.v (.string Zb),.v (vI 3),.h 28 0])),(2,some (.arr 1 [.cl 134 []])),(3,some (.arr 2 [.cl 134 [],.cl 135 []])),(4,some (.arr 2 [.cl 165 [.p 5 0,.p 6 0],.cl 136 []])),(5,some (.box 3 [.v (vI 0)])),(6,some (.box 3 [.v (vI 7)])),(7,some (.arr 4 [.cl 165 [.p 8 0,.p 9 0],.cl 136 [],.cl 166 [.p 10 0],.cl 134 []])),(8,some (.box 3 [.v (vI 0)])),(9,some (.box 3 [.v (vI 7)])),(10,some (.box 26 [.h 11 0])),(11,some (.own 11 (.l 1 eStr We))),(12,some (.arr 6 [.cl 134 [],.cl 165 [.p 13 0,.p 14 0],.cl 166 [.p 15 0],.cl 136 [],.cl 136 [],.cl 165 [.p 17 0,.p 18 0]])),(13,some (.box 3 [.v (vI 0)])),(14,some (.box 3 [.v (vI 99)])),(15,some (.box 26 [.h 16 0])),(16,some (.own 16 (.l 1 eStr X3))),(17,some (.box 3 [.v (vI 0)])),(18,some (.box 3 [.v (vI 7)])),(19,some (.arr 2 [.cl 136 [],.cl 138 []])),(20,some (.arr 3 [.cl 138 [],.cl 165 [.p 21 0,.p 22 0],.cl 165 [.p 23 0,.p 24 0]])),(21,some (.box 3 [.v (vI 1)])),(22,some (.box 3 [.v (vI 9)])),(23,some (.box 3 [.v (vI 1)])),(24,some (.box 3 [.v (vI 999999)])),(25,some (.arr 4 [.cl 136 [],.cl 138 [],.cl 165 [.p 26 0,.p 27 0],.cl 165 [.p 26 0,.p 27 0]])),(26,some (.box 3 [.v (vI 1)])),(27,some (.box 3 [.v (vI 65535)])),(28,some (.arr 4 [.cl 165 [.p 29 0,.p 30 0],.cl 165 [.p 26 0,.p 27 0],.cl 138 [],.cl 165 [.p 26 0,.p 27 0]])),(29,some (.box 3 [.v (vI 1)])),(30,some (.box 3 [.v (vI 7)]))],31⟩:St)) (fun _=>True) (fun x:Nat->SV=>(⟨[(1,some (.p 0 0)),(5,some (.h 1 0)),(8,some (.h 2 0))],[(0,some (.box 9 [.v (.string word)])),(1,some (.own 1 (.l 3 eformR (raw87 x)))),(2,some (.own 2 (.x (LX (know87 x)))))],31⟩:St)) (fun _=>True):=by
 intro ψ IN w0 w a i _ H
 obtain ⟨β,φ,dom,V⟩:=H
 have R:=V.rel
 have hall:allMod (fsG (⟨[(1,some (.p 0 0)),(5,some (.h 1 0)),(8,some (.h 2 0))],[(0,some (.box 9 [.v (.string word)])),(1,some (.arr 9 [.v (.string Zq),.v (vI 1),.h 2 0,.v (.string Zk),.v (vI 2),.h 3 0,.v (.string Ze),.v (vI 2),.h 4 0,.v (.string Ze),.v (vI 2),.h 7 0,.v (.string Zg),.v (vI 3),.h 12 0,.v (.string Zi),.v (vI 3),.h 19 0,.v (.string Zh),.v (vI 2),.h 20 0,.v (.string Zc),.v (vI 1),.h 25 0,.v (.string Zb),.v (vI 3),.h 28 0])),(2,some (.arr 1 [.cl 134 []])),(3,some (.arr 2 [.cl 134 [],.cl 135 []])),(4,some (.arr 2 [.cl 165 [.p 5 0,.p 6 0],.cl 136 []])),(5,some (.box 3 [.v (vI 0)])),(6,some (.box 3 [.v (vI 7)])),(7,some (.arr 4 [.cl 165 [.p 8 0,.p 9 0],.cl 136 [],.cl 166 [.p 10 0],.cl 134 []])),(8,some (.box 3 [.v (vI 0)])),(9,some (.box 3 [.v (vI 7)])),(10,some (.box 26 [.h 11 0])),(11,some (.own 11 (.l 1 eStr We))),(12,some (.arr 6 [.cl 134 [],.cl 165 [.p 13 0,.p 14 0],.cl 166 [.p 15 0],.cl 136 [],.cl 136 [],.cl 165 [.p 17 0,.p 18 0]])),(13,some (.box 3 [.v (vI 0)])),(14,some (.box 3 [.v (vI 99)])),(15,some (.box 26 [.h 16 0])),(16,some (.own 16 (.l 1 eStr X3))),(17,some (.box 3 [.v (vI 0)])),(18,some (.box 3 [.v (vI 7)])),(19,some (.arr 2 [.cl 136 [],.cl 138 []])),(20,some (.arr 3 [.cl 138 [],.cl 165 [.p 21 0,.p 22 0],.cl 165 [.p 23 0,.p 24 0]])),(21,some (.box 3 [.v (vI 1)])),(22,some (.box 3 [.v (vI 9)])),(23,some (.box 3 [.v (vI 1)])),(24,some (.box 3 [.v (vI 999999)])),(25,some (.arr 4 [.cl 136 [],.cl 138 [],.cl 165 [.p 26 0,.p 27 0],.cl 165 [.p 26 0,.p 27 0]])),(26,some (.box 3 [.v (vI 1)])),(27,some (.box 3 [.v (vI 65535)])),(28,some (.arr 4 [.cl 165 [.p 29 0,.p 30 0],.cl 165 [.p 26 0,.p 27 0],.cl 138 [],.cl 165 [.p 26 0,.p 27 0]])),(29,some (.box 3 [.v (vI 1)])),(30,some (.box 3 [.v (vI 7)]))],31⟩:St).fs) [2,3,4,5,6,7,8,9,10,11,12,13,14,15,16,17,18,19,20,21,22,23,24,25,26,27,28,29,30]=true:=rfl
 have hS:∀ id∈[2,3,4,5,6,7,8,9,10,11,12,13,14,15,16,17,18,19,20,21,22,23,24,25,26,27,28,29,30],∀ b∈φ id,b∈[2,3,4,5,6,7,8,9,10,11,12,13,14,15,16,17,18,19,20,21,22,23,24,25,26,27,28,29,30].flatMap φ:=fun id hid b hb=>List.mem_flatMap.2 ⟨id,hid,hb⟩
 have hlt:=R.flat_lt (allMod_ok hall)
 have e2:=arr_sv R (show fsG _ 2=_ from rfl)
 have e3:=arr_sv R (show fsG _ 3=_ from rfl)
 have e4:=arr_sv R (show fsG _ 4=_ from rfl)
 have e7:=arr_sv R (show fsG _ 7=_ from rfl)
 have e12:=arr_sv R (show fsG _ 12=_ from rfl)
 have e19:=arr_sv R (show fsG _ 19=_ from rfl)
 have e20:=arr_sv R (show fsG _ 20=_ from rfl)
 have e25:=arr_sv R (show fsG _ 25=_ from rfl)
 have e28:=arr_sv R (show fsG _ 28=_ from rfl)
 have he:([.v (.string Zq),.v (vI 1),.v (sv (toSV (β 2 0))),.v (.string Zk),.v (vI 2),.v (sv (toSV (β 3 0))),.v (.string Ze),.v (vI 2),.v (sv (toSV (β 4 0))),.v (.string Ze),.v (vI 2),.v (sv (toSV (β 7 0))),.v (.string Zg),.v (vI 3),.v (sv (toSV (β 12 0))),.v (.string Zi),.v (vI 3),.v (sv (toSV (β 19 0))),.v (.string Zh),.v (vI 2),.v (sv (toSV (β 20 0))),.v (.string Zc),.v (vI 1),.v (sv (toSV (β 25 0))),.v (.string Zb),.v (vI 3),.v (sv (toSV (β 28 0)))]:List Dat)=[.v (.string Zq),.v (vI 1),.v (β 2 0),.v (.string Zk),.v (vI 2),.v (β 3 0),.v (.string Ze),.v (vI 2),.v (β 4 0),.v (.string Ze),.v (vI 2),.v (β 7 0),.v (.string Zg),.v (vI 3),.v (β 12 0),.v (.string Zi),.v (vI 3),.v (β 19 0),.v (.string Zh),.v (vI 2),.v (β 20 0),.v (.string Zc),.v (vI 1),.v (β 25 0),.v (.string Zb),.v (vI 3),.v (β 28 0)]:=by rw [<- e2,<- e3,<- e4,<- e7,<- e12,<- e19,<- e20,<- e25,<- e28]
 refine ⟨fun k=>toSV (β (([2,3,4,7,12,19,20,25,28]:List Nat).getD k 0) 0),trivial,pack3 (bx:=[.string word]) (rest:=[2,3,4,5,6,7,8,9,10,11,12,13,14,15,16,17,18,19,20,21,22,23,24,25,26,27,28,29,30]) V rfl ⟨_,rfl,rfl⟩ hall uu1 (R.ok 2 _ rfl).1 (arr_own R (show fsG _ 1=_ from rfl) rfl uu1 (fun _=>rfl) he) (fun hnd _=>⟨⟨R.all1 2 0,?_⟩,hnd,hlt⟩)⟩
 exact ⟨RdV.at_sv e2 (arr_fns R (F:=fsB64) (show fsG _ 2=_ from rfl) rfl uu1 (fun _=>rfl) (hS 2 uu1) ⟨_,_,rfl,cl_none fh134 rfl trivial hlt ca134 rfl,rfl⟩),
  RdV.at_sv e3 (arr_fns R (F:=fsB64) (show fsG _ 3=_ from rfl) rfl uu1 (fun _=>rfl) (hS 3 uu1) ⟨_,_,rfl,cl_none fh134 rfl trivial hlt ca134 rfl,⟨_,_,rfl,cl_none fh135 rfl trivial hlt ca135 rfl,rfl⟩⟩),
  RdV.at_sv e4 (arr_fns R (F:=fsB64) (show fsG _ 4=_ from rfl) rfl uu1 (fun _=>rfl) (hS 4 uu1) ⟨_,_,rfl,cl_two R (fh165 0 7) (show fsG _ 5=_ from rfl) (show fsG _ 6=_ from rfl) rfl trivial (hS 5 uu1) (hS 6 uu1) hlt ca165 rfl rfl rfl,⟨_,_,rfl,cl_none fh136 rfl trivial hlt ca136 rfl,rfl⟩⟩),
  RdV.at_sv e7 (arr_fns R (F:=fsB64) (show fsG _ 7=_ from rfl) rfl uu1 (fun _=>rfl) (hS 7 uu1) ⟨_,_,rfl,cl_two R (fh165 0 7) (show fsG _ 8=_ from rfl) (show fsG _ 9=_ from rfl) rfl trivial (hS 8 uu1) (hS 9 uu1) hlt ca165 rfl rfl rfl,⟨_,_,rfl,cl_none fh136 rfl trivial hlt ca136 rfl,⟨_,_,rfl,cl_own R (fh166 We) (show fsG _ 10=_ from rfl) (show fsG _ 11=_ from rfl) rfl trivial (hS 10 uu1) (hS 11 uu1) hlt ca166 rfl,⟨_,_,rfl,cl_none fh134 rfl trivial hlt ca134 rfl,rfl⟩⟩⟩⟩),
  RdV.at_sv e12 (arr_fns R (F:=fsB64) (show fsG _ 12=_ from rfl) rfl uu1 (fun _=>rfl) (hS 12 uu1) ⟨_,_,rfl,cl_none fh134 rfl trivial hlt ca134 rfl,⟨_,_,rfl,cl_two R (fh165 0 99) (show fsG _ 13=_ from rfl) (show fsG _ 14=_ from rfl) rfl trivial (hS 13 uu1) (hS 14 uu1) hlt ca165 rfl rfl rfl,⟨_,_,rfl,cl_own R (fh166 X3) (show fsG _ 15=_ from rfl) (show fsG _ 16=_ from rfl) rfl trivial (hS 15 uu1) (hS 16 uu1) hlt ca166 rfl,⟨_,_,rfl,cl_none fh136 rfl trivial hlt ca136 rfl,⟨_,_,rfl,cl_none fh136 rfl trivial hlt ca136 rfl,⟨_,_,rfl,cl_two R (fh165 0 7) (show fsG _ 17=_ from rfl) (show fsG _ 18=_ from rfl) rfl trivial (hS 17 uu1) (hS 18 uu1) hlt ca165 rfl rfl rfl,rfl⟩⟩⟩⟩⟩⟩),
  RdV.at_sv e19 (arr_fns R (F:=fsB64) (show fsG _ 19=_ from rfl) rfl uu1 (fun _=>rfl) (hS 19 uu1) ⟨_,_,rfl,cl_none fh136 rfl trivial hlt ca136 rfl,⟨_,_,rfl,cl_none fh138 rfl trivial hlt ca138 rfl,rfl⟩⟩),
  RdV.at_sv e20 (arr_fns R (F:=fsB64) (show fsG _ 20=_ from rfl) rfl uu1 (fun _=>rfl) (hS 20 uu1) ⟨_,_,rfl,cl_none fh138 rfl trivial hlt ca138 rfl,⟨_,_,rfl,cl_two R (fh165 1 9) (show fsG _ 21=_ from rfl) (show fsG _ 22=_ from rfl) rfl trivial (hS 21 uu1) (hS 22 uu1) hlt ca165 rfl rfl rfl,⟨_,_,rfl,cl_two R (fh165 1 999999) (show fsG _ 23=_ from rfl) (show fsG _ 24=_ from rfl) rfl trivial (hS 23 uu1) (hS 24 uu1) hlt ca165 rfl rfl rfl,rfl⟩⟩⟩),
  RdV.at_sv e25 (arr_fns R (F:=fsB64) (show fsG _ 25=_ from rfl) rfl uu1 (fun _=>rfl) (hS 25 uu1) ⟨_,_,rfl,cl_none fh136 rfl trivial hlt ca136 rfl,⟨_,_,rfl,cl_none fh138 rfl trivial hlt ca138 rfl,⟨_,_,rfl,cl_two R (fh165 1 65535) (show fsG _ 26=_ from rfl) (show fsG _ 27=_ from rfl) rfl trivial (hS 26 uu1) (hS 27 uu1) hlt ca165 rfl rfl rfl,⟨_,_,rfl,cl_two R (fh165 1 65535) (show fsG _ 26=_ from rfl) (show fsG _ 27=_ from rfl) rfl trivial (hS 26 uu1) (hS 27 uu1) hlt ca165 rfl rfl rfl,rfl⟩⟩⟩⟩),
  RdV.at_sv e28 (arr_fns R (F:=fsB64) (show fsG _ 28=_ from rfl) rfl uu1 (fun _=>rfl) (hS 28 uu1) ⟨_,_,rfl,cl_two R (fh165 1 7) (show fsG _ 29=_ from rfl) (show fsG _ 30=_ from rfl) rfl trivial (hS 29 uu1) (hS 30 uu1) hlt ca165 rfl rfl rfl,⟨_,_,rfl,cl_two R (fh165 1 65535) (show fsG _ 26=_ from rfl) (show fsG _ 27=_ from rfl) rfl trivial (hS 26 uu1) (hS 27 uu1) hlt ca165 rfl rfl rfl,⟨_,_,rfl,cl_none fh138 rfl trivial hlt ca138 rfl,⟨_,_,rfl,cl_two R (fh165 1 65535) (show fsG _ 26=_ from rfl) (show fsG _ 27=_ from rfl) rfl trivial (hS 26 uu1) (hS 27 uu1) hlt ca165 rfl rfl rfl,rfl⟩⟩⟩⟩),trivial⟩
theorem hk87_1 (word:Za) (x:Nat->SV):HandOK Tryz.prog 45 (fun _:Unit=>(⟨[(2,some (.h 0 0)),(8,some (.h 1 0))],[(0,some (.own 0 (.l 3 eformR ((raw87 x).filter (fun x=>!((fun (x0:formR)=>F140 x0 word) x)))))),(1,some (.own 1 (.x (LX (know87 x)))))],2⟩:St)) (fun _=>True) (fun _:Unit=>(⟨[(2,some (.h 0 0))],[(0,some (.own 0 (.b (.l 3 eform (all87.filter (fun z=>z.word.toList==word.toList))))))],2⟩:St)) (fun _=>True):=by
 intro ψ IN w0 w a i _ H
 refine ⟨(),trivial,pack1 rfl rfl rfl (fun v y f g h1 h2=>?_) H⟩
 have hx:RdAll (fun b=>b∈f++g) w (know87 x):=h2.1.2.mono fun b hb=>⟨Qz _ hb,rfl⟩
 have hall:Rel2 (fun (y:formR) (z:form)=>y.word=z.word/\∀ cs,RdVs (fun b=>b∈f++g) w (eformR y) cs->RdVs (fun b=>b∈f++g) w (eform z) cs) (raw87 x) all87:=⟨⟨rfl,row3 hx.1⟩,⟨rfl,row3 hx.2.1⟩,⟨rfl,row3 hx.2.2.1⟩,⟨rfl,row3 hx.2.2.2.1⟩,⟨rfl,row3 hx.2.2.2.2.1⟩,⟨rfl,row3 hx.2.2.2.2.2.1⟩,⟨rfl,row3 hx.2.2.2.2.2.2.1⟩,⟨rfl,row3 hx.2.2.2.2.2.2.2.1⟩,⟨rfl,row3 hx.2.2.2.2.2.2.2.2.1⟩,trivial⟩
 refine own_reads h1 (fun b hb=>Q2 _ hb) (Rel2.mono (fun a c h=>h.2) (Rel2.filter (fun y z h=>?_) hall))
 simp only [F140,h.1,Bool.not_not]
def F87 (word:Za):List form :=
 (all87.filter (fun z=>z.word.toList==word.toList))
def S87 (word:Za):Spec:=⟨[.r (.c (.v (.string word)))],.ow (.b (.l 3 eform (F87 word))),True⟩
theorem ok87 (word:Za):(S87 word).ok Tryz.prog 87 false :=
 fnG_ok mixed (fn:=Tryz.f87) (ct:=.seq .no (.seq (.reg [(0,kh133f 1 65535),(1,kh133f 1 7)]) (.hnd (ι:=Unit) (κ:=(Nat->SV)) (fun _=>(⟨[(1,some (.p 0 0)),(5,some (.h 1 0)),(8,some (.h 2 0))],[(0,some (.box 9 [.v (.string word)])),(1,some (.arr 9 [.v (.string Zq),.v (vI 1),.h 2 0,.v (.string Zk),.v (vI 2),.h 3 0,.v (.string Ze),.v (vI 2),.h 4 0,.v (.string Ze),.v (vI 2),.h 7 0,.v (.string Zg),.v (vI 3),.h 12 0,.v (.string Zi),.v (vI 3),.h 19 0,.v (.string Zh),.v (vI 2),.h 20 0,.v (.string Zc),.v (vI 1),.h 25 0,.v (.string Zb),.v (vI 3),.h 28 0])),(2,some (.arr 1 [.cl 134 []])),(3,some (.arr 2 [.cl 134 [],.cl 135 []])),(4,some (.arr 2 [.cl 165 [.p 5 0,.p 6 0],.cl 136 []])),(5,some (.box 3 [.v (vI 0)])),(6,some (.box 3 [.v (vI 7)])),(7,some (.arr 4 [.cl 165 [.p 8 0,.p 9 0],.cl 136 [],.cl 166 [.p 10 0],.cl 134 []])),(8,some (.box 3 [.v (vI 0)])),(9,some (.box 3 [.v (vI 7)])),(10,some (.box 26 [.h 11 0])),(11,some (.own 11 (.l 1 eStr We))),(12,some (.arr 6 [.cl 134 [],.cl 165 [.p 13 0,.p 14 0],.cl 166 [.p 15 0],.cl 136 [],.cl 136 [],.cl 165 [.p 17 0,.p 18 0]])),(13,some (.box 3 [.v (vI 0)])),(14,some (.box 3 [.v (vI 99)])),(15,some (.box 26 [.h 16 0])),(16,some (.own 16 (.l 1 eStr X3))),(17,some (.box 3 [.v (vI 0)])),(18,some (.box 3 [.v (vI 7)])),(19,some (.arr 2 [.cl 136 [],.cl 138 []])),(20,some (.arr 3 [.cl 138 [],.cl 165 [.p 21 0,.p 22 0],.cl 165 [.p 23 0,.p 24 0]])),(21,some (.box 3 [.v (vI 1)])),(22,some (.box 3 [.v (vI 9)])),(23,some (.box 3 [.v (vI 1)])),(24,some (.box 3 [.v (vI 999999)])),(25,some (.arr 4 [.cl 136 [],.cl 138 [],.cl 165 [.p 26 0,.p 27 0],.cl 165 [.p 26 0,.p 27 0]])),(26,some (.box 3 [.v (vI 1)])),(27,some (.box 3 [.v (vI 65535)])),(28,some (.arr 4 [.cl 165 [.p 29 0,.p 30 0],.cl 165 [.p 26 0,.p 27 0],.cl 138 [],.cl 165 [.p 26 0,.p 27 0]])),(29,some (.box 3 [.v (vI 1)])),(30,some (.box 3 [.v (vI 7)]))],31⟩:St)) (fun _=>True) (fun (x:Nat->SV)=>(⟨[(1,some (.p 0 0)),(5,some (.h 1 0)),(8,some (.h 2 0))],[(0,some (.box 9 [.v (.string word)])),(1,some (.own 1 (.l 3 eformR (raw87 x)))),(2,some (.own 2 (.x (LX (know87 x)))))],31⟩:St)) (fun _=>True) (.reg [(4,kh133f 0 7),(7,kh133f 0 7),(8,.dat (.l 1 eStr We)),(9,kh137f We),(12,kh133f 0 99),(13,.dat (.l 1 eStr X3)),(14,kh137f X3),(15,kh133f 0 7),(20,kh133f 1 9),(21,kh133f 1 999999)]) (fun (x:Nat->SV)=>.hnd (ι:=Unit) (κ:=Unit) (fun _=>(⟨[(2,some (.h 0 0)),(8,some (.h 1 0))],[(0,some (.own 0 (.l 3 eformR ((raw87 x).filter (fun x=>!((fun (x0:formR)=>F140 x0 word) x)))))),(1,some (.own 1 (.x (LX (know87 x)))))],2⟩:St)) (fun _=>True) (fun (_:Unit)=>(⟨[(2,some (.h 0 0))],[(0,some (.own 0 (.b (.l 3 eform (all87.filter (fun z=>z.word.toList==word.toList))))))],2⟩:St)) (fun _=>True) (.reg [(2,.call 139 (S139 ((raw87 x).filter (fun x=>!((fun (x0:formR)=>F140 x0 word) x))) (raw87 x) (fun (x0:formR)=>F140 x0 word) (fun (x0:formR)=>True)) (oa139 (raw87 x) (fun (x0:formR)=>F140 x0 word) (fun (x0:formR)=>True)) (some ⟨true,140,fsQ131 (fun (x0:formR)=>True) (fun (x0:formR)=>F140 x0 word),[.rp ([.v (.string word)])],rfl,True,fun i=>ok_pxH (ok140 i word)⟩))]) (fun (_:Unit)=>.no))))) Tryz.func87 (fun (_:True)=>kc133 1 65535 (kc133 1 7 (ai (kc133 0 7 (kc133 0 7 (ai (bokr 1 eStr We fun _=>rfl) (kc137 We (kc133 0 99 (ai (bokr 1 eStr X3 fun _=>rfl) (kc137 X3 (kc133 0 7 (kc133 1 9 (kc133 1 999999 (Exists.intro (p:=fun (_:Unit)=>((.string word:Value)=.string word)/\((.string Zq:Value)=.string Zq)/\((.int .i64 1:Value)=.int .i64 1)/\((.string Zk:Value)=.string Zk)/\((.int .i64 2:Value)=.int .i64 2)/\((.string Ze:Value)=.string Ze)/\((.int .i64 2:Value)=.int .i64 2)/\((.string Ze:Value)=.string Ze)/\((.int .i64 2:Value)=.int .i64 2)/\((.string Zg:Value)=.string Zg)/\((.int .i64 3:Value)=.int .i64 3)/\((.string Zi:Value)=.string Zi)/\((.int .i64 3:Value)=.int .i64 3)/\((.string Zh:Value)=.string Zh)/\((.int .i64 2:Value)=.int .i64 2)/\((.string Zc:Value)=.string Zc)/\((.int .i64 1:Value)=.int .i64 1)/\((.string Zb:Value)=.string Zb)/\((.int .i64 3:Value)=.int .i64 3)/\((.int .i64 0:Value)=.int .i64 0)/\((.int .i64 7:Value)=.int .i64 7)/\((.int .i64 0:Value)=.int .i64 0)/\((.int .i64 7:Value)=.int .i64 7)/\(Imp (.l 1 eStr We) (.l 1 eStr We))/\((.int .i64 0:Value)=.int .i64 0)/\((.int .i64 99:Value)=.int .i64 99)/\(Imp (.l 1 eStr X3) (.l 1 eStr X3))/\((.int .i64 0:Value)=.int .i64 0)/\((.int .i64 7:Value)=.int .i64 7)/\((.int .i64 1:Value)=.int .i64 1)/\((.int .i64 9:Value)=.int .i64 9)/\((.int .i64 1:Value)=.int .i64 1)/\((.int .i64 999999:Value)=.int .i64 999999)/\((.int .i64 1:Value)=.int .i64 1)/\((.int .i64 65535:Value)=.int .i64 65535)/\((.int .i64 1:Value)=.int .i64 1)/\((.int .i64 7:Value)=.int .i64 7)/\True) () (ai rfl (ai rfl (ai rfl (ai rfl (ai rfl (ai rfl (ai rfl (ai rfl (ai rfl (ai rfl (ai rfl (ai rfl (ai rfl (ai rfl (ai rfl (ai rfl (ai rfl (ai rfl (ai rfl (ai rfl (ai rfl (ai rfl (ai rfl (ai ir (ai rfl (ai rfl (ai ir (ai rfl (ai rfl (ai rfl (ai rfl (ai rfl (ai rfl (ai rfl (ai rfl (ai rfl (ai rfl trivial)))))))))))))))))))))))))))))))))))))))))))))))) (ai (hk87_0 word) (fun (x:Nat->SV) (_:True)=>ai (ai (ai (by exact (by decide:(9:Nat)<=1000000000):(raw87 x).length<=1000000000) (by (intros; exact trivial):∀ k:Nat,k<(raw87 x).length->(fun (x0:formR)=>True) ((raw87 x).getD k default))) (ai (Imp.refl (.l 3 eformR (raw87 x))) (ai (Eq.refl (fsQ131 (fun (x0:formR)=>True) (fun (x0:formR)=>F140 x0 word))) (ai trivial (ai (Imps.refl [.v (.string word)]) (Exists.intro (p:=fun (_:Unit)=>(Imp (.l 3 eformR ((raw87 x).filter (fun x=>!((fun (x0:formR)=>F140 x0 word) x)))) (.l 3 eformR ((raw87 x).filter (fun x=>!((fun (x0:formR)=>F140 x0 word) x)))))/\(Imp (.x (LX (know87 x))) (.x (LX (know87 x))))/\True) () (ai ir (ai ir trivial)))))))) (ai (hk87_1 word x) (fun (_:Unit) (_:True)=>(fun hF:((all87.filter (fun z=>z.word.toList==word.toList)):List form)=(F87 word)=>ai (Imp.of_eq (Qh (fun r:List form=>Dat.b (Dat.l 3 eform r)) hF)) trivial) rfl))))))) uu3
theorem g87_0 (word:Za):∀ k:Nat,((F87 word).getD k default).checks.length<=6:=by
 have hall:∀ z∈all87,z.checks.length<=6:=by
  intro z hz
  simp only [all87,Qt,Rl,Gy] at hz
  rcases hz with rfl | rfl | rfl | rfl | rfl | rfl | rfl | rfl | rfl <;> decide
 intro k
 rw [Qe]
 cases h:(F87 word)[k]? with
 | none=>exact Re 6
 | some z=>exact hall z (Sz.1 (Rg h)).1
def F88_s0 (f:form) (words:List Za):Int->Lp Int Bool:=fun v17 =>
 bif (decide (v17<(f.checks.length:Int))) then (bif (!((f.checks.getD v17.toNat default) (words.getD (v17+1).toNat default))) then (.ret false) else (.next (v17+1))) else (.done v17)
def F88 (f:form) (words:List Za):Bool :=
 bif ((words.length:Int) != ((f.checks.length:Int)+1)) then false else ((runL (F88_s0 f words) (((f.checks.length:Int)-0).toNat+1) 0).fin (fun r=>r) (fun v17=>true))
abbrev lN88_0 (f:form):Nat×Int:=((((f.checks.length:Int)-0).toNat+1),0)
abbrev lI88_0 (f:form) (m39:Nat) (v17:Int):Prop:=Int.toNat ((f.checks.length:Int)-v17)<m39/\(0:Int)<=v17
abbrev lX88_0 (f:form) (words:List Za):Lp Int Bool:=LpX (F88_s0 f words) (lN88_0 f)
abbrev lJ88_0 (f:form) (words:List Za) (i:Nat×Int):Prop:=LpJ (F88_s0 f words) (lN88_0 f) i (lI88_0 f i.1 i.2)
abbrev lH88_0 (f:form) (words:List Za) (i:Nat×Int) (m39:Nat) (v17:Int):Prop:=LpH (F88_s0 f words) (lN88_0 f) i m39 v17 (lI88_0 f (m39+1) v17)
abbrev lE88_0 (f:form) (words:List Za) (v17:Int) (v17_:Int) (K39:Prop):Prop:=(Rf (.int .i64 (f.checks.length:Int)))/\((.int .i64 v17:Value)=.int .i64 v17_)/\(Im (.l 1 eStr words))/\(Im (.l 1 eFn64 f.checks))/\K39
theorem un88_0 (f:form) (words:List Za) (i:Nat×Int) (h:lJ88_0 f words i):lH88_0 f words i (i.1-1) i.2:=⟨hd1 h.1 h.2.1,hd3 h.2.1,hd2 h.2.1,h.2.2⟩
theorem bk88_0 (f:form) (words:List Za) (i:Nat×Int) (m39:Nat) (v17:Int) (hl:m39<i.1) (e:runL (F88_s0 f words) m39 v17=lX88_0 f words) (h:lI88_0 f m39 v17):∃ j:Nat×Int,lE88_0 f words v17 j.2 (lJ88_0 f words j/\j.1<i.1):=⟨(m39,v17),rfl,rfl,Imp.refl _,Imp.refl _,⟨e,h⟩,hl⟩
theorem en88_0 (f:form) (words:List Za) (h:(0:Int)<=0):lE88_0 f words 0 0 (lJ88_0 f words (lN88_0 f)):=⟨rfl,rfl,Imp.refl _,Imp.refl _,rfl,Qr _,h⟩
def S88 (f:form) (words:List Za):Spec:=⟨[.r (.g (eform f)),.r (.c (.l 1 eStr words))],.v (.bool (F88 f words)),f.checks.length<=6/\(∀ k:Nat,(words.getD k default).size<=1048576)⟩
theorem ok88 (f:form) (words:List Za):(S88 f words).ok Tryz.prog 88 false :=
 fnG_ok mixed (fn:=Tryz.f88) (ct:=.seqk [(1,0)] .no (.seq (.seq (.reg [(5,.bnd)]) (.cond (.seq .no .no) .no)) (.seq (.seqk [(1,0),(15,0)] .no (.blk (.loop (ι:=Nat×Int) (fun i=>(fun (v17:Int)=>(⟨[(1,some (.h 0 0)),(15,some (.h 1 0)),(16,some (.v (vI (f.checks.length:Int)))),(17,some (.v (vI v17)))],[(0,some (.shr none (.l 1 eStr words))),(1,some (.shr none (.l 1 eFn64 f.checks)))],2⟩:St)) i.2) (lJ88_0 f words) (fun i=>i.1) (lN88_0 f) (fun i=>(fun (v17:Int)=>(.seq .no (.seq (.cond .no .no) (.seq (.blk (.seq .no (.seq (.reg [(3,.bnd),(6,.fnv (fsB64 (f.checks.getD v17.toNat default)) (words.getD (v17+1).toNat default))]) (.cond (.seq .no .no) .no)))) (.reg [(0,.bnd)]))))) i.2)))) (.seq .no .no)))) Tryz.func88 (fun (hp:f.checks.length<=6/\(∀ k:Nat,(words.getD k default).size<=1048576))=>have hpre0:=hp.1; have hpre1:=hp.2; kn words fun _=>ai (iok ((f.checks.length:Int)+1) uu0) (ifn (words.length:Int) ((f.checks.length:Int)+1) (fun h1 _=>fiB false (F88 f words) (condT h1 rfl)) (fun h1 _=>kn words fun _=>kn f.checks fun _=>ai (en88_0 f words uu0) (fun (i0:Nat×Int) (hi0:lJ88_0 f words i0)=>(fun (m0:Nat) (v17:Int) (hh0:lH88_0 f words i0 m0 v17)=>have hI0:=hh0.1; have hl0:=hh0.2.1; have _:=hh0.2.2.1; have _:=hh0.2.2.2; ifd (v17<(f.checks.length:Int)) (fun h3 _=>ai (uu0:ib v17 f.checks) (ai (iok (v17+1) uu0) (ai (uu0:ib (v17+1) words) (ai (Eq.refl (FnX Tryz.prog (fsB64 (f.checks.getD v17.toNat default)))) (ai (Imp.bx (by exact hpre1 _:(words.getD (v17+1).toNat default).size<=1048576)) (ifb (!((f.checks.getD v17.toNat default) (words.getD (v17+1).toNat default))) (fun h4=>have _:=(notET h4); fiB false (F88 f words) (condF h1 (finR (runL_ret hI0 (condT h3 (condT h4 rfl))) rfl))) (fun h4=>have _:=(notEF h4); ai (iok (v17+1) uu0) (bk88_0 f words i0 m0 (v17+1) hl0 (runL_next hI0 (condT h3 (condF h4 rfl))) uu6)))))))) (fun h3 _=>have hD0_5:lX88_0 f words=Lp.done v17:=runL_done hI0 (condF h3 rfl); fiB true (F88 f words) (condF h1 (finD hD0_5 rfl)))) (i0.1-1) i0.2 (un88_0 f words i0 hi0))))) uu3
theorem kc87 (word:Za) {K_:Prop} (k_:(∀ k:Nat,((F87 word).getD k default).checks.length<=6)->K_):(True)/\(Imp (.v (.string word)) (.v (.string word)))/\K_:=⟨trivial,Imp.refl _,k_ (g87_0 word)⟩
abbrev kh87 (word:Za):Hint false Tryz.prog:=.call 87 (S87 word) (ok87 word) none
theorem kc88 (f:form) (words:List Za) {K_:Prop} (p0_:f.checks.length<=6) (p1_:∀ k:Nat,(words.getD k default).size<=1048576) (k_:K_):(f.checks.length<=6/\(∀ k:Nat,(words.getD k default).size<=1048576))/\(Imps (eform f) (eform f))/\(Imp (.l 1 eStr words) (.l 1 eStr words))/\K_:=⟨⟨p0_,p1_⟩,Imps.refl _,Imp.refl _,k_⟩
abbrev kh88 (f:form) (words:List Za):Hint false Tryz.prog:=.call 88 (S88 f words) (ok88 f words) none
def F34_s0 (words:List Za):Int->Lp Int (form×Bool):=fun v15 =>
 bif (decide (v15<((F87 (words.getD (Int.toNat 0) default)).length:Int))) then (bif (F88 ((F87 (words.getD (Int.toNat 0) default)).getD v15.toNat default) words) then (.ret (((F87 (words.getD (Int.toNat 0) default)).getD v15.toNat default),true)) else (.next (v15+1))) else (.done v15)
def F34 (words:List Za):form×Bool :=
 bif ((words.length:Int)==0) then ((⟨Zf,0,[]⟩:form),false) else ((runL (F34_s0 words) ((((F87 (words.getD (Int.toNat 0) default)).length:Int)-0).toNat+1) 0).fin (fun r=>r) (fun v15=>((⟨Zf,0,[]⟩:form),false)))
abbrev lN34_0 (words:List Za):Nat×Int:=(((((F87 (words.getD (Int.toNat 0) default)).length:Int)-0).toNat+1),0)
abbrev lI34_0 (words:List Za) (m39:Nat) (v15:Int):Prop:=Int.toNat (((F87 (words.getD (Int.toNat 0) default)).length:Int)-v15)<m39/\(0:Int)<=v15
abbrev lX34_0 (words:List Za):Lp Int (form×Bool):=LpX (F34_s0 words) (lN34_0 words)
abbrev lJ34_0 (words:List Za) (i:Nat×Int):Prop:=LpJ (F34_s0 words) (lN34_0 words) i (lI34_0 words i.1 i.2)
abbrev lH34_0 (words:List Za) (i:Nat×Int) (m39:Nat) (v15:Int):Prop:=LpH (F34_s0 words) (lN34_0 words) i m39 v15 (lI34_0 words (m39+1) v15)
abbrev lE34_0 (words:List Za) (v15:Int) (v15_:Int) (K39:Prop):Prop:=(Rf (.int .i64 ((F87 (words.getD (Int.toNat 0) default)).length:Int)))/\((.int .i64 v15:Value)=.int .i64 v15_)/\(Im (.l 1 eStr words))/\(Rf (.string Zf))/\(Rf (.int .i64 0))/\(Rf (.slice none 0 0))/\(Im (.b (.l 3 eform (F87 (words.getD (Int.toNat 0) default)))))/\K39
theorem un34_0 (words:List Za) (i:Nat×Int) (h:lJ34_0 words i):lH34_0 words i (i.1-1) i.2:=⟨hd1 h.1 h.2.1,hd3 h.2.1,hd2 h.2.1,h.2.2⟩
theorem bk34_0 (words:List Za) (i:Nat×Int) (m39:Nat) (v15:Int) (hl:m39<i.1) (e:runL (F34_s0 words) m39 v15=lX34_0 words) (h:lI34_0 words m39 v15):∃ j:Nat×Int,lE34_0 words v15 j.2 (lJ34_0 words j/\j.1<i.1):=⟨(m39,v15),rfl,rfl,Imp.refl _,rfl,rfl,rfl,Imp.refl _,⟨e,h⟩,hl⟩
theorem en34_0 (words:List Za) (h:(0:Int)<=0):lE34_0 words 0 0 (lJ34_0 words (lN34_0 words)):=⟨rfl,rfl,Imp.refl _,rfl,rfl,rfl,Imp.refl _,rfl,Qr _,h⟩
def S34 (words:List Za):Spec:=⟨[.r (.c (.l 1 eStr words))],.tu [.ag [.v (.string (F34 words).1.word),.v (vI (F34 words).1.key),.ow .any],.v (.bool (F34 words).2)],(∀ k:Nat,(words.getD k default).size<=1048576)⟩
theorem ok34 (words:List Za):(S34 words).ok Tryz.prog 34 false :=
 fnG_ok mixed (fn:=Tryz.f34) (ct:=.seqk [(0,0)] .no (.seq (.seq .no (.cond (.seq .no .no) .no)) (.seq (.seqk [(0,0),(13,0)] (.reg [(3,kh87 (words.getD (Int.toNat 0) default))]) (.blk (.loop (ι:=Nat×Int) (fun i=>(fun (v15:Int)=>(⟨[(0,some (.h 0 0)),(2,some (.p 1 0)),(13,some (.h 2 0)),(14,some (.v (vI ((F87 (words.getD (Int.toNat 0) default)).length:Int)))),(15,some (.v (vI v15)))],[(0,some (.shr none (.l 1 eStr words))),(1,some (.box 54 [.v (.string Zf),.v (vI 0),.v (.slice none 0 0)])),(2,some (.own 2 (.b (.l 3 eform (F87 (words.getD (Int.toNat 0) default))))))],3⟩:St)) i.2) (lJ34_0 words) (fun i=>i.1) (lN34_0 words) (fun i=>(fun (v15:Int)=>(.seq .no (.seq (.cond .no .no) (.seq (.blk (.seq .no (.seq (.reg [(2,kh88 ((F87 (words.getD (Int.toNat 0) default)).getD v15.toNat default) words)]) (.cond (.seq .no .no) .no)))) (.reg [(0,.bnd)]))))) i.2)))) (.seq .no .no)))) Tryz.func34 (fun (hpre0:∀ k:Nat,(words.getD k default).size<=1048576)=>kn words fun _=>ife (words.length:Int) 0 (fun h1 _=>(fun hF:((⟨Zf,0,[]⟩:form),false)=(F34 words)=>ai (Qh (fun r:form×Bool=>(.string r.1.word:Value)) hF) (ai (Qh (fun r:form×Bool=>(.int .i64 r.1.key:Value)) hF) (ai (Qh (fun r:form×Bool=>(.bool r.2:Value)) hF) trivial))) (condT h1 rfl)) (fun h1 _=>ai (uu0:ib 0 words) (kc87 (words.getD (Int.toNat 0) default) (fun gv2=>kn words fun _=>kn (F87 (words.getD (Int.toNat 0) default)) fun _=>ai (en34_0 words uu0) (fun (i0:Nat×Int) (hi0:lJ34_0 words i0)=>(fun (m0:Nat) (v15:Int) (hh0:lH34_0 words i0 m0 v15)=>have hI0:=hh0.1; have hl0:=hh0.2.1; have _:=hh0.2.2.1; have _:=hh0.2.2.2; ifd (v15<((F87 (words.getD (Int.toNat 0) default)).length:Int)) (fun h4 _=>ai (uu0:ib v15 (F87 (words.getD (Int.toNat 0) default))) (kc88 ((F87 (words.getD (Int.toNat 0) default)).getD v15.toNat default) words (by exact gv2 _) uu9 (ifb (F88 ((F87 (words.getD (Int.toNat 0) default)).getD v15.toNat default) words) (fun h5=>(fun hF:(((F87 (words.getD (Int.toNat 0) default)).getD v15.toNat default),true)=(F34 words)=>ai (Qh (fun r:form×Bool=>(.string r.1.word:Value)) hF) (ai (Qh (fun r:form×Bool=>(.int .i64 r.1.key:Value)) hF) (ai (Qh (fun r:form×Bool=>(.bool r.2:Value)) hF) trivial))) (condF h1 (finR (runL_ret hI0 (condT h4 (condT h5 rfl))) rfl))) (fun h5=>ai (iok (v15+1) uu0) (bk34_0 words i0 m0 (v15+1) hl0 (runL_next hI0 (condT h4 (condF h5 rfl))) uu6))))) (fun h4 _=>have hD0_6:lX34_0 words=Lp.done v15:=runL_done hI0 (condF h4 rfl); (fun hF:((⟨Zf,0,[]⟩:form),false)=(F34 words)=>ai (Qh (fun r:form×Bool=>(.string r.1.word:Value)) hF) (ai (Qh (fun r:form×Bool=>(.int .i64 r.1.key:Value)) hF) (ai (Qh (fun r:form×Bool=>(.bool r.2:Value)) hF) trivial))) (condF h1 (finD hD0_6 rfl)))) (i0.1-1) i0.2 (un34_0 words i0 hi0)))))) uu3
theorem find_loop {α ρ τ:Type} [Inhabited α] (xs:List α) (p:α->Bool) (g:α->ρ) (st:Int->Lp Int ρ) (f:ρ->τ) (k:Int->τ) (y:τ) (hk:∀ i,k i=y)
  (h1:∀ i:Nat,i<xs.length->st (i:Int)=bif p (xs.getD i default) then .ret (g (xs.getD i default)) else .next ((i+1:Nat):Int)) (h2:st (xs.length:Int)=.done (xs.length:Int)) :
  ∀ (m i:Nat),i+m=xs.length->∀ fuel,m<fuel->(runL st fuel (i:Int)).fin f k=match (xs.drop i).find? p with | some a=>f (g a) | none=>y
 | m,i,_,0,hf=>absurd hf (R5 _)
 | 0,i,h,fuel+1,hf=>by
  have e:i=xs.length:=by omega
  subst e
  rw [runL_d _ h2,Q3 (Qn _)]
  exact hk _
 | m+1,i,h,fuel+1,hf=>by
  have hst:=h1 i uu0
  have hd:xs.drop i=xs.getD i default :: xs.drop (i+1):=by
   rw [Rd (show i<xs.length by omega),Qe,Qj (show i<xs.length by omega)]; rfl
  rw [hd,List.find?_cons]
  cases hp:p (xs.getD i default) with
  | true=>rw [hp,Qc] at hst; rw [runL_r _ hst]; rfl
  | false =>
   rw [hp,Qb] at hst
   rw [runL_n _ hst,find_loop xs p g st f k y hk h1 h2 m (i+1) uu0 fuel uu0]
def chk:List (Za->Bool)->Nat->List Za->Bool
 | [],_,_=>true
 | c :: cs,i,w=>c (w.getD i default)&&chk cs (i+1) w
theorem chk_drop (cs:List (Za->Bool)) (w:List Za):∀ (m i:Nat),i+m=cs.length->anyF (fun k=>!(cs.getD k default) (w.getD (k+1) default)) i m=!chk (cs.drop i) (i+1) w
 | 0,i,h=>by rw [Q3 uu0]; rfl
 | m+1,i,h=>by
  have hd:cs.drop i=cs.getD i default :: cs.drop (i+1):=by
   rw [Rd (show i<cs.length by omega),Qe,Qj (show i<cs.length by omega)]; rfl
  rw [hd]
  simp only [anyF,chk,Bool.not_and]
  rw [chk_drop cs w m (i+1) uu0]
theorem fits_eq (f:form) (w:List Za):F88 f w=(decide (w.length=f.checks.length+1)&&chk f.checks 1 w):=by
 unfold F88
 by_cases h:w.length=f.checks.length+1
 ·have h1:((w.length:Int) != ((f.checks.length:Int)+1))=false:=by
   rw [bne_eq_false_iff_eq]; omega
  rw [h1,Qb,Qs h,Sm]
  have:=any_loop (F88_s0 f w) f.checks.length (fun k=>!(f.checks.getD k default) (w.getD (k+1) default)) false (fun r=>r) true (fun i hi=>by
   simp only [F88_s0,Qs (show (i:Int)<(f.checks.length:Int) by omega),Qc,Rr]
   rw [show ((i:Int)+1).toNat=i+1 by omega]
   cases (!(f.checks.getD i default) (w.getD (i+1) default)) <;> rfl) (by
   simp only [F88_s0,Qq (show ¬ (f.checks.length:Int)<(f.checks.length:Int) by omega),Qb])
  have h2:=this f.checks.length 0 uu0 (Int.toNat ((f.checks.length:Int)-0)+1) uu0
  rw [chk_drop f.checks w f.checks.length 0 uu0,Ro] at h2
  refine h2.trans ?_
  cases chk f.checks (0+1) w <;> rfl
 ·have h1:((w.length:Int) != ((f.checks.length:Int)+1))=true:=by
   rw [G1]; omega
  rw [h1,Qc,Qq h,S3]
theorem formOf_eq (w:List Za) (hw:w.length≠0):F34 w=match (F87 (w.getD 0 default)).find? (fun f=>F88 f w) with | some f=>(f,true) | none=>((⟨Zf,0,[]⟩:form),false):=by
 unfold F34
 have h1:((w.length:Int)==0)=false:=by rw [Qw]; omega
 rw [h1,Qb]
 have h0:w.getD (Int.toNat 0) default=w.getD 0 default:=rfl
 simp only [h0]
 generalize hx:F87 (w.getD 0 default)=xs
 have:=find_loop xs (fun f=>F88 f w) (fun f=>(f,true)) (F34_s0 w) (fun r=>r) (fun _=>((⟨Zf,0,[]⟩:form),false)) _ (fun _=>rfl) (fun i hi=>by
  simp only [F34_s0,h0,hx,Qs (show (i:Int)<(xs.length:Int) by omega),Qc,Rr]
  cases F88 (xs.getD i default) w <;> rfl) (by
  simp only [F34_s0,h0,hx,Qq (show ¬ (xs.length:Int)<(xs.length:Int) by omega),Qb]) xs.length 0 uu0 (Int.toNat ((xs.length:Int)-0)+1) uu0
 rw [Ro] at this
 refine Eq.trans this ?_
 cases xs.find? (fun f=>F88 f w) <;> rfl
theorem forms_of (l:List UInt8) (x:Za) (h:x.data.toList=l):F87 x=all87.filter (fun z=>z.word.data.toList==l):=by
 unfold F87
 congr 1
 funext z
 rw [byteToList,byteToList,h]
def keyN (l:List UInt8):Int :=
 if l=[104,111,115,116] then 1 else if l=[117,115,101,114] then 2 else if l=[112,111,114,116] then 2 else if l=[114,117,108,101] then 3 else if l=[114,111,117,116,101] then 3 else if l=[112,101,101,114] then 2 else if l=[110,97,116] then 1 else 3
theorem one_word (x a:Za):F166 x [a]=(x.toList==a.toList):=by
 unfold F166
 rw [implHas_eq,Ga,List.any_nil,Bool.or_false]
theorem two_words (x a b:Za):F166 x [a,b]=bif (x.toList==a.toList) then true else (x.toList==b.toList):=by
 unfold F166
 rw [implHas_eq,Ga,Ga,List.any_nil,Bool.or_false]
 cases (x.toList==a.toList) <;> rfl
theorem in_range (x:Za) (lo hi:Int):F165 x lo hi=decide (lo<=F123 x/\F123 x<=hi):=by
 unfold F165
 rw [number_same]
theorem len_dec (w:List Za) (n:Nat):((w.length:Int)==(n:Int))=decide (w.length=n):=by
 by_cases h:w.length=n
 ·rw [Qs h,Sb]; omega
 ·rw [Qq h,Qw]; omega
theorem form_one (w:List Za) (f:form) (hw:w.length≠0) (h:F87 (w.getD 0 default)=[f]):(F34 w).2=F88 f w/\((F34 w).2=true->(F34 w).1.key=f.key):=by
 rw [formOf_eq w hw,h,List.find?_cons,List.find?_nil]
 cases F88 f w <;> exact ⟨rfl,fun h=>by first | rfl | cases h⟩
theorem form_two (w:List Za) (f g:form) (hw:w.length≠0) (h:F87 (w.getD 0 default)=[f,g]) (hk:f.key=g.key):(F34 w).2=(F88 f w || F88 g w)/\((F34 w).2=true->(F34 w).1.key=f.key):=by
 rw [formOf_eq w hw,h,List.find?_cons,List.find?_cons,List.find?_nil]
 cases F88 f w <;> cases F88 g w <;> exact ⟨rfl,fun h=>by first | rfl | exact hk.symm | cases h⟩
theorem form_none (w:List Za) (hw:w.length≠0) (h:F87 (w.getD 0 default)=[]):(F34 w).2=false:=by
 rw [formOf_eq w hw,h]; rfl
theorem blit (x:Za) (a:Array UInt8):(x.toList==(⟨a⟩:Za).toList)=(x.data.toList==a.toList):=by rw [byteToList,byteToList]
theorem hd00:(([104,111,115,116]:List UInt8)==([104,111,115,116]:List UInt8))=true:=by decide
theorem hd10:(([117,115,101,114]:List UInt8)==([104,111,115,116]:List UInt8))=false:=by decide
theorem hd11:(([117,115,101,114]:List UInt8)==([117,115,101,114]:List UInt8))=true:=by decide
theorem hd20:(([112,111,114,116]:List UInt8)==([104,111,115,116]:List UInt8))=false:=by decide
theorem hd21:(([112,111,114,116]:List UInt8)==([117,115,101,114]:List UInt8))=false:=by decide
theorem hd22:(([112,111,114,116]:List UInt8)==([112,111,114,116]:List UInt8))=true:=by decide
theorem hd30:(([114,117,108,101]:List UInt8)==([104,111,115,116]:List UInt8))=false:=by decide
theorem hd31:(([114,117,108,101]:List UInt8)==([117,115,101,114]:List UInt8))=false:=by decide
theorem hd32:(([114,117,108,101]:List UInt8)==([112,111,114,116]:List UInt8))=false:=by decide
theorem hd33:(([114,117,108,101]:List UInt8)==([114,117,108,101]:List UInt8))=true:=by decide
theorem hd40:(([114,111,117,116,101]:List UInt8)==([104,111,115,116]:List UInt8))=false:=by decide
theorem hd41:(([114,111,117,116,101]:List UInt8)==([117,115,101,114]:List UInt8))=false:=by decide
theorem hd42:(([114,111,117,116,101]:List UInt8)==([112,111,114,116]:List UInt8))=false:=by decide
theorem hd43:(([114,111,117,116,101]:List UInt8)==([114,117,108,101]:List UInt8))=false:=by decide
theorem hd44:(([114,111,117,116,101]:List UInt8)==([114,111,117,116,101]:List UInt8))=true:=by decide
theorem hd50:(([112,101,101,114]:List UInt8)==([104,111,115,116]:List UInt8))=false:=by decide
theorem hd51:(([112,101,101,114]:List UInt8)==([117,115,101,114]:List UInt8))=false:=by decide
theorem hd52:(([112,101,101,114]:List UInt8)==([112,111,114,116]:List UInt8))=false:=by decide
theorem hd53:(([112,101,101,114]:List UInt8)==([114,117,108,101]:List UInt8))=false:=by decide
theorem hd54:(([112,101,101,114]:List UInt8)==([114,111,117,116,101]:List UInt8))=false:=by decide
theorem hd55:(([112,101,101,114]:List UInt8)==([112,101,101,114]:List UInt8))=true:=by decide
theorem hd60:(([110,97,116]:List UInt8)==([104,111,115,116]:List UInt8))=false:=by decide
theorem hd61:(([110,97,116]:List UInt8)==([117,115,101,114]:List UInt8))=false:=by decide
theorem hd62:(([110,97,116]:List UInt8)==([112,111,114,116]:List UInt8))=false:=by decide
theorem hd63:(([110,97,116]:List UInt8)==([114,117,108,101]:List UInt8))=false:=by decide
theorem hd64:(([110,97,116]:List UInt8)==([114,111,117,116,101]:List UInt8))=false:=by decide
theorem hd65:(([110,97,116]:List UInt8)==([112,101,101,114]:List UInt8))=false:=by decide
theorem hd66:(([110,97,116]:List UInt8)==([110,97,116]:List UInt8))=true:=by decide
theorem hd70:(([100,111,111,114]:List UInt8)==([104,111,115,116]:List UInt8))=false:=by decide
theorem hd71:(([100,111,111,114]:List UInt8)==([117,115,101,114]:List UInt8))=false:=by decide
theorem hd72:(([100,111,111,114]:List UInt8)==([112,111,114,116]:List UInt8))=false:=by decide
theorem hd73:(([100,111,111,114]:List UInt8)==([114,117,108,101]:List UInt8))=false:=by decide
theorem hd74:(([100,111,111,114]:List UInt8)==([114,111,117,116,101]:List UInt8))=false:=by decide
theorem hd75:(([100,111,111,114]:List UInt8)==([112,101,101,114]:List UInt8))=false:=by decide
theorem hd76:(([100,111,111,114]:List UInt8)==([110,97,116]:List UInt8))=false:=by decide
theorem hd77:(([100,111,111,114]:List UInt8)==([100,111,111,114]:List UInt8))=true:=by decide
theorem cb1 (a b:Bool):(bif a then b else false)=(a&&b):=by cases a <;> rfl
theorem cb2 (a b:Bool):(bif a then true else b)=(a || b):=by cases a <;> rfl
theorem form_same (w:List Za):(F34 w).2=F36 w/\((F34 w).2=true->(F34 w).1.key=keyN (w.getD 0 default).data.toList):=by
 by_cases hw:w.length=0
 ·obtain rfl:=R3 hw
  exact ⟨rfl,fun h=>by cases h⟩
 have h0:((w.length:Int)==0)=false:=by rw [Qw]; omega
 have t0:∀ k:Nat,w.getD (k:Int).toNat default=w.getD k default:=fun _=>rfl
 have e0:w.getD (Int.toNat 0) default=w.getD 0 default:=rfl
 have e1:w.getD (Int.toNat 1) default=w.getD 1 default:=rfl
 have e2:w.getD (Int.toNat 2) default=w.getD 2 default:=rfl
 have e3:w.getD (Int.toNat 3) default=w.getD 3 default:=rfl
 have e4:w.getD (Int.toNat 4) default=w.getD 4 default:=rfl
 have e5:w.getD (Int.toNat 5) default=w.getD 5 default:=rfl
 have e6:w.getD (Int.toNat 6) default=w.getD 6 default:=rfl
 have n2:=len_dec w 2
 have n3:=len_dec w 3
 have n4:=len_dec w 4
 have n5:=len_dec w 5
 have n7:=len_dec w 7
 simp only [Int.cast_ofNat_Int] at n2 n3 n4 n5 n7
 have hb:∀ l:List UInt8,(w.getD 0 default).data.toList=l->(w.getD 0 default).toList=l:=fun l h=>by rw [byteToList,h]
 have hlit:∀ l:List UInt8,(⟨l.toArray⟩:Za).toList=l:=fun l=>by rw [byteToList]
 unfold F36
 simp only [h0,Qb,e0,e1,e2,e3,e4,e5,e6,n2,n3,n4,n5,n7]
 rcases Sk ((w.getD 0 default).data.toList=[104,111,115,116]) with h | hn0
 ·have hF:=(forms_of _ _ h).trans (show _=[all87.getD 0 default] from rfl)
  have f0:F88 (all87.getD 0 default) w=(decide (w.length=2)&&(F134 (w.getD 1 default)&&true)):=fits_eq _ _
  obtain ⟨k1,k2⟩:=form_one w _ hw hF
  refine ⟨?_,fun hh=>(k2 hh).trans uu24⟩
  rw [k1,f0]
  simp only [blit,h,hd00,Qc,Qb,name_same,isRights_same,isPrefix_same,isAddr_same,in_range,one_word,two_words,cb1,cb2,Td,Tc]
 rcases Sk ((w.getD 0 default).data.toList=[117,115,101,114]) with h | hn1
 ·have hF:=(forms_of _ _ h).trans (show _=[all87.getD 1 default] from rfl)
  have f0:F88 (all87.getD 1 default) w=(decide (w.length=3)&&(F134 (w.getD 1 default)&&(F135 (w.getD 2 default)&&true))):=fits_eq _ _
  obtain ⟨k1,k2⟩:=form_one w _ hw hF
  refine ⟨?_,fun hh=>(k2 hh).trans uu24⟩
  rw [k1,f0]
  simp only [blit,h,hd10,hd11,Qc,Qb,name_same,isRights_same,isPrefix_same,isAddr_same,in_range,one_word,two_words,cb1,cb2,Td,Tc]
 rcases Sk ((w.getD 0 default).data.toList=[112,111,114,116]) with h | hn2
 ·have hF:=(forms_of _ _ h).trans (show _=[all87.getD 2 default,all87.getD 3 default] from rfl)
  have f0:F88 (all87.getD 2 default) w=(decide (w.length=3)&&(F165 (w.getD 1 default) 0 7&&(F136 (w.getD 2 default)&&true))):=fits_eq _ _
  have f1:F88 (all87.getD 3 default) w=(decide (w.length=5)&&(F165 (w.getD 1 default) 0 7&&(F136 (w.getD 2 default)&&(F166 (w.getD 3 default) [Z0]&&(F134 (w.getD 4 default)&&true))))):=fits_eq _ _
  obtain ⟨k1,k2⟩:=form_two w _ _ hw hF rfl
  refine ⟨?_,fun hh=>(k2 hh).trans uu24⟩
  rw [k1,f0,f1]
  simp only [blit,h,hd20,hd21,hd22,Qc,Qb,name_same,isRights_same,isPrefix_same,isAddr_same,in_range,one_word,two_words,cb1,cb2,Td,Tc]
  generalize decide (w.length=3)=a,decide (w.length=5)=b,decide (0<=F123 (w.getD 1 default)/\F123 (w.getD 1 default)<=7)=c,F94 (w.getD 2 default)=d,((w.getD 3 default).data.toList==[105,110])=e,F82 (w.getD 4 default)=g
  cases a <;> cases b <;> cases c <;> cases d <;> cases e <;> cases g <;> rfl
 rcases Sk ((w.getD 0 default).data.toList=[114,117,108,101]) with h | hn3
 ·have hF:=(forms_of _ _ h).trans (show _=[all87.getD 4 default] from rfl)
  have f0:F88 (all87.getD 4 default) w=(decide (w.length=7)&&(F134 (w.getD 1 default)&&(F165 (w.getD 2 default) 0 99&&(F166 (w.getD 3 default) [Zs,Zt]&&(F136 (w.getD 4 default)&&(F136 (w.getD 5 default)&&(F165 (w.getD 6 default) 0 7&&true))))))):=fits_eq _ _
  obtain ⟨k1,k2⟩:=form_one w _ hw hF
  refine ⟨?_,fun hh=>(k2 hh).trans uu24⟩
  rw [k1,f0]
  simp only [blit,h,hd30,hd31,hd32,hd33,Qc,Qb,name_same,isRights_same,isPrefix_same,isAddr_same,in_range,one_word,two_words,cb1,cb2,Td,Tc]
 rcases Sk ((w.getD 0 default).data.toList=[114,111,117,116,101]) with h | hn4
 ·have hF:=(forms_of _ _ h).trans (show _=[all87.getD 5 default] from rfl)
  have f0:F88 (all87.getD 5 default) w=(decide (w.length=3)&&(F136 (w.getD 1 default)&&(F138 (w.getD 2 default)&&true))):=fits_eq _ _
  obtain ⟨k1,k2⟩:=form_one w _ hw hF
  refine ⟨?_,fun hh=>(k2 hh).trans uu24⟩
  rw [k1,f0]
  simp only [blit,h,hd40,hd41,hd42,hd43,hd44,Qc,Qb,name_same,isRights_same,isPrefix_same,isAddr_same,in_range,one_word,two_words,cb1,cb2,Td,Tc]
 rcases Sk ((w.getD 0 default).data.toList=[112,101,101,114]) with h | hn5
 ·have hF:=(forms_of _ _ h).trans (show _=[all87.getD 6 default] from rfl)
  have f0:F88 (all87.getD 6 default) w=(decide (w.length=4)&&(F138 (w.getD 1 default)&&(F165 (w.getD 2 default) 1 9&&(F165 (w.getD 3 default) 1 999999&&true)))):=fits_eq _ _
  obtain ⟨k1,k2⟩:=form_one w _ hw hF
  refine ⟨?_,fun hh=>(k2 hh).trans uu24⟩
  rw [k1,f0]
  simp only [blit,h,hd50,hd51,hd52,hd53,hd54,hd55,Qc,Qb,name_same,isRights_same,isPrefix_same,isAddr_same,in_range,one_word,two_words,cb1,cb2,Td,Tc]
 rcases Sk ((w.getD 0 default).data.toList=[110,97,116]) with h | hn6
 ·have hF:=(forms_of _ _ h).trans (show _=[all87.getD 7 default] from rfl)
  have f0:F88 (all87.getD 7 default) w=(decide (w.length=5)&&(F136 (w.getD 1 default)&&(F138 (w.getD 2 default)&&(F165 (w.getD 3 default) 1 65535&&(F165 (w.getD 4 default) 1 65535&&true))))):=fits_eq _ _
  obtain ⟨k1,k2⟩:=form_one w _ hw hF
  refine ⟨?_,fun hh=>(k2 hh).trans uu24⟩
  rw [k1,f0]
  simp only [blit,h,hd60,hd61,hd62,hd63,hd64,hd65,hd66,Qc,Qb,name_same,isRights_same,isPrefix_same,isAddr_same,in_range,one_word,two_words,cb1,cb2,Td,Tc]
 rcases Sk ((w.getD 0 default).data.toList=[100,111,111,114]) with h | hn7
 ·have hF:=(forms_of _ _ h).trans (show _=[all87.getD 8 default] from rfl)
  have f0:F88 (all87.getD 8 default) w=(decide (w.length=5)&&(F165 (w.getD 1 default) 1 7&&(F165 (w.getD 2 default) 1 65535&&(F138 (w.getD 3 default)&&(F165 (w.getD 4 default) 1 65535&&true))))):=fits_eq _ _
  obtain ⟨k1,k2⟩:=form_one w _ hw hF
  refine ⟨?_,fun hh=>(k2 hh).trans uu24⟩
  rw [k1,f0]
  simp only [blit,h,hd70,hd71,hd72,hd73,hd74,hd75,hd76,hd77,Qc,Qb,name_same,isRights_same,isPrefix_same,isAddr_same,in_range,one_word,two_words,cb1,cb2,Td,Tc]
 have hF:F87 (w.getD 0 default)=[]:=by
  rw [forms_of _ _ rfl,List.filter_eq_nil_iff]
  intro z hz
  simp only [all87,Qt,Rl,Gy] at hz
  rcases hz with rfl | rfl | rfl | rfl | rfl | rfl | rfl | rfl | rfl
  ·exact fun e=>hn0 (eq_of_beq e).symm
  ·exact fun e=>hn1 (eq_of_beq e).symm
  ·exact fun e=>hn2 (eq_of_beq e).symm
  ·exact fun e=>hn2 (eq_of_beq e).symm
  ·exact fun e=>hn3 (eq_of_beq e).symm
  ·exact fun e=>hn4 (eq_of_beq e).symm
  ·exact fun e=>hn5 (eq_of_beq e).symm
  ·exact fun e=>hn6 (eq_of_beq e).symm
  ·exact fun e=>hn7 (eq_of_beq e).symm
 rw [form_none w hw hF]
 refine ⟨?_,fun h=>by cases h⟩
 simp only [blit,Qw.2 hn0,Qw.2 hn1,Qw.2 hn2,Qw.2 hn3,Qw.2 hn4,Qw.2 hn5,Qw.2 hn6,Qw.2 hn7,Qb]
theorem wordsOf_sz (l:List UInt8) (k:Nat):((wordsOf l).1.getD k default).size<=24:=by
 unfold wordsOf fitW
 rw [Qe]
 cases h:((l.all okB)&&(decide ((wordsL l).length<=8)&&(wordsL l).all fun w=>decide (w.length<=24))) with
 | false=>rw [Qb]; exact Re _
 | true =>
  rw [Qc]
  simp only [Qo] at h
  have h2:=Rh.1 h.2.2
  show ((((wordsL l).map mkB)[k]?).getD default).size<=24
  rw [Tp]
  cases hk:(wordsL l)[k]? with
  | none=>exact Re _
  | some w=>exact Qd (h2 w (Rg hk))
theorem words_sz24 (line:Za) (k:Nat):((F10 line).1.getD k default).size<=24:=by
 rw [impl_words]; exact wordsOf_sz _ k
theorem words_sz (line:Za):∀ k:Nat,((F10 line).1.getD k default).size<=1048576:=fun k=>Q0 (words_sz24 line k) uu1
theorem specwords_len (line:Za):(F11 line).1.length<=8:=by rw [<- words_same]; exact words_len line
theorem specwords_sz (line:Za):∀ k:Nat,((F11 line).1.getD k default).size<=1048576:=by rw [<- words_same]; exact words_sz line
theorem joinTail_len (sep:List UInt8) (m:Nat):∀ xs:List (List UInt8),(∀ x∈xs,x.length<=m)->(Lib.joinTail sep xs).length<=xs.length*(m+sep.length)
 | [],_=>by simp [Lib.joinTail]
 | x :: xs,h=>by
  have h1:=joinTail_len sep m xs fun y hy=>h y (Qg _ hy)
  have h2:=h x Qi
  have e:Lib.joinTail sep (x :: xs)=(sep++x)++Lib.joinTail sep xs:=rfl
  rw [e]
  simp only [Qu,Qx,R8]
  omega
theorem join_sz (ws:List Za) (sep:Za) (m:Nat) (h:∀ k:Nat,(ws.getD k default).size<=m):(joinS ws sep).size<=ws.length*(m+sep.size):=by
 have hx:∀ x∈ws.map (·.data.toList),x.length<=m:=by
  intro x hx
  obtain ⟨w,hw,rfl⟩:=Sr.1 hx
  obtain ⟨k,hk⟩:=Tg.1 hw
  have:=h k
  rw [Qe,hk] at this
  exact this
 have e:(joinS ws sep).size=(Lib.join (ws.map (·.data.toList)) sep.data.toList).length:=by simp [joinS,ByteArray.size]
 have es:sep.data.toList.length=sep.size:=rfl
 rw [e]
 cases ws with
 | nil=>simp [Lib.join]
 | cons a t =>
  rw [Rc,Lib.join_cons,Qu,Qx,R8]
  have h1:=joinTail_len sep.data.toList m (t.map (·.data.toList)) fun y hy=>hx y (by rw [Rc]; exact Qg _ hy)
  have h2:=hx a.data.toList (by rw [Rc]; exact Qi)
  rw [Sg,es] at h1
  omega
theorem join_small (ws:List Za) (sep:Za) (h:∀ k:Nat,(ws.getD k default).size<=1048576) (hl:ws.length<=8) (hs:sep.size<=1):(joinS ws sep).size<=140737488355328:=by
 have h1:=join_sz ws sep 1048576 h
 have h2:=Nat.mul_le_mul hl (show 1048576+sep.size<=1048577 by omega)
 omega
def F35 (elems:List Za) (sep:Za):Za :=
 joinS elems sep
def S35 (elems:List Za) (sep:Za):Spec:=⟨[.r (.c (.l 1 eStr elems)),.r (.c (.v (.string sep)))],.v (.string (F35 elems sep)),elems.length<=140737488355328/\(joinS elems sep).size<=140737488355328⟩
theorem ok35 (elems:List Za) (sep:Za):(S35 elems sep).ok Tryz.prog 35 false :=
 join_ok layJoin layJoinX elems sep
theorem kc10 (line:Za) {K_:Prop} (p0_:line.size<=1048576) (k_:((F10 line).1.length<=8)->(∀ k:Nat,((F10 line).1.getD k default).size<=1048576)->K_):(line.size<=1048576)/\(Imp (.v (.string line)) (.v (.string line)))/\K_:=⟨p0_,Imp.refl _,k_ (words_len line) (words_sz line)⟩
abbrev kh10 (line:Za):Hint false Tryz.prog:=.call 10 (S10 line) (ok10 line) none
theorem kc34 (words:List Za) {K_:Prop} (p0_:∀ k:Nat,(words.getD k default).size<=1048576) (k_:K_):(∀ k:Nat,(words.getD k default).size<=1048576)/\(Imp (.l 1 eStr words) (.l 1 eStr words))/\K_:=⟨p0_,Imp.refl _,k_⟩
abbrev kh34 (words:List Za):Hint false Tryz.prog:=.call 34 (S34 words) (ok34 words) none
theorem kc35 (elems:List Za) (sep:Za) {K_:Prop} (p0_:elems.length<=140737488355328) (p1_:(joinS elems sep).size<=140737488355328) (k_:K_):(elems.length<=140737488355328/\(joinS elems sep).size<=140737488355328)/\(Imp (.l 1 eStr elems) (.l 1 eStr elems))/\(Imp (.v (.string sep)) (.v (.string sep)))/\K_:=⟨⟨p0_,p1_⟩,Imp.refl _,Imp.refl _,k_⟩
abbrev kh35 (elems:List Za) (sep:Za):Hint false Tryz.prog:=.call 35 (S35 elems sep) (ok35 elems sep) none
def F8 (line:Za):Za×Bool :=
 bif (!(F10 line).2) then (Zf,false) else (bif (!(F34 (F10 line).1).2) then (Zf,false) else ((F35 (F10 line).1 Zd),true))
theorem fi8 (line:Za) (r:Za×Bool) (hF:r=(F8 line)):((.string r.1:Value)=.string (F8 line).1)/\((.bool r.2:Value)=.bool (F8 line).2)/\True:=by cases hF; exact ⟨rfl,rfl,trivial⟩
def S8 (line:Za):Spec:=⟨[.r (.c (.v (.string line)))],.tu [.v (.string (F8 line).1),.v (.bool (F8 line).2)],line.size<=1048576⟩
theorem ok8 (line:Za):(S8 line).ok Tryz.prog 8 false :=
 fnG_ok mixed (fn:=Tryz.f8) (ct:=.seq .no (.seq (.reg [(1,kh10 line)]) (.seq (.seq .no (.cond (.seq .no .no) .no)) (.seq (.seq (.reg [(1,kh34 (F10 line).1)]) (.seq .no (.cond (.seq .no .no) .no))) (.seq (.reg [(1,kh35 (F10 line).1 Zd)]) .no))))) Tryz.func8 (fun (hpre0:line.size<=1048576)=>kc10 line uu0 (fun gv1 gv2=>ifb (!(F10 line).2) (fun h3=>have _:=(notET h3); fi8 line (Zf,false) (condT h3 rfl)) (fun h3=>have _:=(notEF h3); kc34 (F10 line).1 uu67 (ifb (!(F34 (F10 line).1).2) (fun h4=>have _:=(notET h4); fi8 line (Zf,false) (condF h3 (condT h4 rfl))) (fun h4=>have _:=(notEF h4); kc35 (F10 line).1 Zd uu68 uu68 (fi8 line ((F35 (F10 line).1 Zd),true) (condF h3 (condF h4 rfl)))))))) uu3
theorem kc11 (line:Za) {K_:Prop} (p0_:line.size<=1048576) (k_:((F11 line).1.length<=8)->(∀ k:Nat,((F11 line).1.getD k default).size<=1048576)->K_):(line.size<=1048576)/\(Imp (.v (.string line)) (.v (.string line)))/\K_:=⟨p0_,Imp.refl _,k_ (specwords_len line) (specwords_sz line)⟩
abbrev kh11 (line:Za):Hint true Tryz.prog:=.call 11 (S11 line) (ok11 line) none
theorem kg36 {K_:Prop} (c_ b_:Bool) (w1:List Za) (p_:c_=b_->(∀ k:Nat,(w1.getD k default).size<=1048576)) (k_:K_):(c_=b_->(∀ k:Nat,(w1.getD k default).size<=1048576))/\(c_=b_->Imp (.l 1 eStr w1) (.l 1 eStr w1))/\K_:=⟨p_,fun _=>Imp.refl _,k_⟩
abbrev kh36 (w1:List Za):Hint true Tryz.prog:=.call 36 (S36 w1) (ok36 w1) none
theorem kc37 (list:List Za) (with':Za) {K_:Prop} (p0_:list.length<=8) (p1_:∀ k:Nat,(list.getD k default).size<=1048576) (p2_:with'.size<=1) (k_:K_):(list.length<=8/\(∀ k:Nat,(list.getD k default).size<=1048576)/\with'.size<=1)/\(Imp (.l 1 eStr list) (.l 1 eStr list))/\(Imp (.v (.string with')) (.v (.string with')))/\K_:=⟨⟨p0_,p1_,p2_⟩,Imp.refl _,Imp.refl _,k_⟩
abbrev kh37 (list:List Za) (with':Za):Hint true Tryz.prog:=.call 37 (S37 list with') (ok37 list with') none
def F9 (line:Za):Za×Bool :=
 bif (bif (!(F11 line).2) then true else (!(F36 (F11 line).1))) then (Zf,false) else ((F37 (F11 line).1 Zd),true)
theorem fi9 (line:Za) (r:Za×Bool) (hF:r=(F9 line)):((.string r.1:Value)=.string (F9 line).1)/\((.bool r.2:Value)=.bool (F9 line).2)/\True:=by cases hF; exact ⟨rfl,rfl,trivial⟩
def S9 (line:Za):Spec:=⟨[.r (.c (.v (.string line)))],.tu [.v (.string (F9 line).1),.v (.bool (F9 line).2)],line.size<=1048576⟩
theorem ok9 (line:Za):(S9 line).ok Tryz.prog 9 :=
 fnG_ok mixed (fn:=Tryz.f9) (ct:=.seq .no (.seq (.reg [(1,kh11 line)]) (.seq (.seq (.reg [(4,kh36 (F11 line).1)]) (.cond (.seq .no .no) .no)) (.seq (.reg [(1,kh37 (F11 line).1 Zd)]) .no)))) Tryz.func9 (fun (hpre0:line.size<=1048576)=>kc11 line uu0 (fun gv1 gv2=>kg36 (!(F11 line).2) false (F11 line).1 (fun k3=>have _:=(notEF k3); uu67) (ifb (bif (!(F11 line).2) then true else (!(F36 (F11 line).1))) (fun h4=>fi9 line (Zf,false) (condT h4 rfl)) (fun h4=>have _:=(notEF (orF1 h4)); kc37 (F11 line).1 Zd uu55 uu55 uu55 (fi9 line ((F37 (F11 line).1 Zd),true) (condF h4 rfl)))))) uu3
theorem line_same (line:Za):F8 line=F9 line:=by
 unfold F8 F9
 rw [words_same,(form_same _).1,specJoin_eq]
 cases (F11 line).2 <;> cases F36 (F11 line).1 <;> rfl
def hostP (w:List Za):Prop:=(w.getD 0 default).data.toList=[104,111,115,116]/\w.length=2/\F82 (w.getD 1 default)=true
def userP (w:List Za):Prop:=(w.getD 0 default).data.toList=[117,115,101,114]/\w.length=3/\F82 (w.getD 1 default)=true/\F92 (w.getD 2 default)=true
def portP (w:List Za):Prop:=(w.getD 0 default).data.toList=[112,111,114,116]/\(w.length=3\/w.length=5/\(w.getD 3 default).data.toList=[105,110]/\F82 (w.getD 4 default)=true)/\0<=F123 (w.getD 1 default)/\F123 (w.getD 1 default)<=7/\F94 (w.getD 2 default)=true
def ruleP (w:List Za):Prop:=(w.getD 0 default).data.toList=[114,117,108,101]/\w.length=7/\F82 (w.getD 1 default)=true/\0<=F123 (w.getD 2 default)/\F123 (w.getD 2 default)<=99/\((w.getD 3 default).data.toList=[112,101,114,109,105,116]\/(w.getD 3 default).data.toList=[100,101,110,121])/\F94 (w.getD 4 default)=true/\F94 (w.getD 5 default)=true/\0<=F123 (w.getD 6 default)/\F123 (w.getD 6 default)<=7
def routeP (w:List Za):Prop:=(w.getD 0 default).data.toList=[114,111,117,116,101]/\w.length=3/\F94 (w.getD 1 default)=true/\F95 (w.getD 2 default)>=0
def peerP (w:List Za):Prop:=(w.getD 0 default).data.toList=[112,101,101,114]/\w.length=4/\F95 (w.getD 1 default)>=0/\1<=F123 (w.getD 2 default)/\F123 (w.getD 2 default)<=9/\1<=F123 (w.getD 3 default)/\F123 (w.getD 3 default)<=999999
def natP (w:List Za):Prop:=(w.getD 0 default).data.toList=[110,97,116]/\w.length=5/\F94 (w.getD 1 default)=true/\F95 (w.getD 2 default)>=0/\1<=F123 (w.getD 3 default)/\F123 (w.getD 3 default)<=65535/\1<=F123 (w.getD 4 default)/\F123 (w.getD 4 default)<=65535
def doorP (w:List Za):Prop:=(w.getD 0 default).data.toList=[100,111,111,114]/\w.length=5/\1<=F123 (w.getD 1 default)/\F123 (w.getD 1 default)<=7/\1<=F123 (w.getD 2 default)/\F123 (w.getD 2 default)<=65535/\F95 (w.getD 3 default)>=0/\1<=F123 (w.getD 4 default)/\F123 (w.getD 4 default)<=65535
def FormP (w:List Za):Prop:=hostP w\/userP w\/portP w\/ruleP w\/routeP w\/peerP w\/natP w\/doorP w
theorem form_cases (w:List Za) (hF:F36 w=true):FormP w:=by
 have hw:w.length≠0:=fun h=>by
  obtain rfl:=R3 h
  exact Tz hF
 have h0:((w.length:Int)==0)=false:=by rw [Qw]; omega
 have e0:w.getD (Int.toNat 0) default=w.getD 0 default:=rfl
 have e1:w.getD (Int.toNat 1) default=w.getD 1 default:=rfl
 have e2:w.getD (Int.toNat 2) default=w.getD 2 default:=rfl
 have e3:w.getD (Int.toNat 3) default=w.getD 3 default:=rfl
 have e4:w.getD (Int.toNat 4) default=w.getD 4 default:=rfl
 have e5:w.getD (Int.toNat 5) default=w.getD 5 default:=rfl
 have e6:w.getD (Int.toNat 6) default=w.getD 6 default:=rfl
 have n2:=len_dec w 2
 have n3:=len_dec w 3
 have n4:=len_dec w 4
 have n5:=len_dec w 5
 have n7:=len_dec w 7
 simp only [Int.cast_ofNat_Int] at n2 n3 n4 n5 n7
 unfold F36 at hF
 simp only [h0,Qb,e0,e1,e2,e3,e4,e5,e6,n2,n3,n4,n5,n7] at hF
 rcases Sk ((w.getD 0 default).data.toList=[104,111,115,116]) with h | hn0
 ·simp only [blit,h,hd00,Qc,Qb,cb1,cb2,Qo,Se,Rj,Sb,and_assoc] at hF
  exact Or.inl ⟨h,hF⟩
 rcases Sk ((w.getD 0 default).data.toList=[117,115,101,114]) with h | hn1
 ·simp only [blit,h,hd10,hd11,Qc,Qb,cb1,cb2,Qo,Se,Rj,Sb,and_assoc] at hF
  exact Or.inr (Or.inl ⟨h,hF⟩)
 rcases Sk ((w.getD 0 default).data.toList=[112,111,114,116]) with h | hn2
 ·simp only [blit,h,hd20,hd21,hd22,Qc,Qb,cb1,cb2,Qo,Se,Rj,Sb,and_assoc] at hF
  exact Or.inr (Or.inr (Or.inl ⟨h,hF⟩))
 rcases Sk ((w.getD 0 default).data.toList=[114,117,108,101]) with h | hn3
 ·simp only [blit,h,hd30,hd31,hd32,hd33,Qc,Qb,cb1,cb2,Qo,Se,Rj,Sb,and_assoc] at hF
  exact Or.inr (Or.inr (Or.inr (Or.inl ⟨h,hF⟩)))
 rcases Sk ((w.getD 0 default).data.toList=[114,111,117,116,101]) with h | hn4
 ·simp only [blit,h,hd40,hd41,hd42,hd43,hd44,Qc,Qb,cb1,cb2,Qo,Se,Rj,Sb,and_assoc] at hF
  exact Or.inr (Or.inr (Or.inr (Or.inr (Or.inl ⟨h,hF⟩))))
 rcases Sk ((w.getD 0 default).data.toList=[112,101,101,114]) with h | hn5
 ·simp only [blit,h,hd50,hd51,hd52,hd53,hd54,hd55,Qc,Qb,cb1,cb2,Qo,Se,Rj,Sb,and_assoc] at hF
  exact Or.inr (Or.inr (Or.inr (Or.inr (Or.inr (Or.inl ⟨h,hF⟩)))))
 rcases Sk ((w.getD 0 default).data.toList=[110,97,116]) with h | hn6
 ·simp only [blit,h,hd60,hd61,hd62,hd63,hd64,hd65,hd66,Qc,Qb,cb1,cb2,Qo,Se,Rj,Sb,and_assoc] at hF
  exact Or.inr (Or.inr (Or.inr (Or.inr (Or.inr (Or.inr (Or.inl ⟨h,hF⟩))))))
 rcases Sk ((w.getD 0 default).data.toList=[100,111,111,114]) with h | hn7
 ·simp only [blit,h,hd70,hd71,hd72,hd73,hd74,hd75,hd76,hd77,Qc,Qb,cb1,cb2,Qo,Se,Rj,Sb,and_assoc] at hF
  exact Or.inr (Or.inr (Or.inr (Or.inr (Or.inr (Or.inr (Or.inr (⟨h,hF⟩)))))))
 exfalso
 simp only [blit,Qw.2 hn0,Qw.2 hn1,Qw.2 hn2,Qw.2 hn3,Qw.2 hn4,Qw.2 hn5,Qw.2 hn6,Qw.2 hn7,Qb] at hF
 exact Tz hF
theorem form_two_le (w:List Za) (h:FormP w):2<=w.length/\w.length<=7:=by
 unfold FormP hostP userP portP ruleP routeP peerP natP doorP at h
 omega
theorem form_key_le (w:List Za) (h:FormP w):1<=keyN (w.getD 0 default).data.toList/\keyN (w.getD 0 default).data.toList<=3/\keyN (w.getD 0 default).data.toList<=(w.length:Int):=by
 rcases h with h | h | h | h | h | h | h | h
 ·have hk:keyN (w.getD 0 default).data.toList=1:=by rw [h.1]; decide
  unfold hostP at h
  omega
 ·have hk:keyN (w.getD 0 default).data.toList=2:=by rw [h.1]; decide
  unfold userP at h
  omega
 ·have hk:keyN (w.getD 0 default).data.toList=2:=by rw [h.1]; decide
  unfold portP at h
  omega
 ·have hk:keyN (w.getD 0 default).data.toList=3:=by rw [h.1]; decide
  unfold ruleP at h
  omega
 ·have hk:keyN (w.getD 0 default).data.toList=3:=by rw [h.1]; decide
  unfold routeP at h
  omega
 ·have hk:keyN (w.getD 0 default).data.toList=2:=by rw [h.1]; decide
  unfold peerP at h
  omega
 ·have hk:keyN (w.getD 0 default).data.toList=1:=by rw [h.1]; decide
  unfold natP at h
  omega
 ·have hk:keyN (w.getD 0 default).data.toList=3:=by rw [h.1]; decide
  unfold doorP at h
  omega
theorem splitL_no (c:UInt8):∀ (l:List UInt8),∀ w∈splitL c l,c ∉ w
 | [],w,h=>by rw [splitL,Qy] at h; rw [h]; exact Rl
 | b :: l,w,h=>by
  have ih:=splitL_no c l
  rw [splitL] at h
  by_cases hb:b=c
  ·rw [if_pos hb] at h
   rcases Qt.1 h with rfl | h
   ·exact Rl
   ·exact ih w h
  ·rw [if_neg hb] at h
   have hbc:¬ c=b:=fun e=>hb e.symm
   cases hs:splitL c l with
   | nil =>
    rw [hs] at h
    rw [Qy] at h; rw [h]
    intro hm; rcases Qt.1 hm with e | e
    ·exact hbc e
    ·cases e
   | cons p ps =>
    rw [hs] at h ih
    rcases Qt.1 h with rfl | h
    ·intro hm; rcases Qt.1 hm with e | e
     ·exact hbc e
     ·exact ih p Qi e
    ·exact ih w (Qg _ h)
theorem split_join (c:UInt8):∀ (ws:List (List UInt8)),ws≠[]->(∀ w∈ws,c ∉ w)->splitL c (Lib.join ws [c])=ws
 | [],h,_=>absurd rfl h
 | [x],_,h=>by rw [Lib.join_one,splitL_none (h x Qi)]
 | x :: y :: r,_,h=>by
  have ih:=split_join c (y :: r) uu14 fun w hw=>h w (Qg _ hw)
  rw [Lib.join_cons]
  have e:Lib.joinTail [c] (y :: r)=c :: Lib.join (y :: r) [c]:=by rw [Lib.join_cons]; rfl
  rw [e,splitL_app _ (h x Qi),ih]
theorem word_no (line:Za):∀ w∈(F11 line).1,(32:UInt8) ∉ w.data.toList/\w.data.toList≠[]/\w.size<=24:=by
 rw [spec_words]
 unfold wordsOf fitW
 cases h:(((cut3 line Zj).1.data.toList.all okB)&&(decide ((wordsL (cut3 line Zj).1.data.toList).length<=8)&&(wordsL (cut3 line Zj).1.data.toList).all fun w=>decide (w.length<=24))) with
 | false=>intro w hw; rw [Qb] at hw; cases hw
 | true =>
  rw [Qc]
  simp only [Qo] at h
  intro w hw
  obtain ⟨l,hl,rfl⟩:=Sr.1 hw
  have h1:=Qd (Rh.1 h.2.2 l hl)
  have h2:=Sz.1 hl
  refine ⟨splitL_no 32 _ l h2.1,?_,h1⟩
  intro e
  have e':l=[]:=e
  rw [e'] at h2
  exact Tz h2.2
structure KeptP (line:Za) (w:List Za):Prop where
 words:F11 line=(w,true)
 form:FormP w
 joins:joinS w Zd=line
 splits:splitS line Zd=w
 no:∀ x∈w,(32:UInt8) ∉ x.data.toList/\x.data.toList≠[]/\x.size<=24
theorem join_split (w:List Za) (h0:w≠[]) (h:∀ x∈w,(32:UInt8) ∉ x.data.toList):splitS (joinS w Zd) Zd=w:=by
 rw [splitS_mk]
 have e:(joinS w Zd).data.toList=Lib.join (w.map (·.data.toList)) [32]:=rfl
 rw [e,split_join 32 _ (by simpa using h0) (fun x hx=>by obtain ⟨y,hy,rfl⟩:=Sr.1 hx; exact h y hy),Gp]
 exact (T6 fun x _=>mkB_self x).trans (Hl _)
theorem specLine_eq (line:Za):F9 line=bif (F11 line).2&&F36 (F11 line).1 then (joinS (F11 line).1 Zd,true) else (Zf,false):=by
 unfold F9
 rw [specJoin_eq]
 cases (F11 line).2 <;> cases F36 (F11 line).1 <;> rfl
theorem beq_ba (a b:Za):(a.toList==b.toList)=decide (a=b):=by
 rw [byteToList,byteToList]
 by_cases h:a=b
 ·rw [h,Qs rfl]; simp
 ·rw [Qq h,Qw]; exact fun e=>h (ba_ext e)
theorem kept_of (line:Za) (h:(F9 line).2=true/\(F9 line).1=line):KeptP line (F11 line).1:=by
 rw [specLine_eq] at h
 cases hc:((F11 line).2&&F36 (F11 line).1) with
 | false=>rw [hc,Qb] at h; exact absurd h.1 Tz
 | true =>
  rw [hc,Qc] at h
  simp only [Qo] at hc
  have hf:=form_cases _ hc.2
  have hn:=word_no line
  refine ⟨Prod.ext rfl hc.1,hf,h.2,?_,hn⟩
  have hne:(F11 line).1≠[]:=fun e=>by have:=(form_two_le _ hf).1; rw [e] at this; simp at this
  have:=join_split _ hne fun x hx=>(hn x hx).1
  have e:joinS (F11 line).1 Zd=line:=h.2
  rwa [e] at this
theorem kc8 (line:Za) {K_:Prop} (p0_:line.size<=1048576) (k_:K_):(line.size<=1048576)/\(Imp (.v (.string line)) (.v (.string line)))/\K_:=⟨p0_,Imp.refl _,k_⟩
abbrev kh8 (line:Za):Hint false Tryz.prog:=.call 8 (S8 line) (ok8 line) none
def F46 (line:Za):Bool :=
 (bif (F8 line).2 then ((F8 line).1.toList==line.toList) else false)
def S46 (line:Za):Spec:=⟨[.r (.c (.v (.string line)))],.v (.bool (F46 line)),line.size<=1048576⟩
theorem ok46 (line:Za):(S46 line).ok Tryz.prog 46 false :=
 fnG_ok mixed (fn:=Tryz.f46) (ct:=.seq .no (.seq (.reg [(1,kh8 line)]) (.seq .no .no))) Tryz.func46 (fun (hpre0:line.size<=1048576)=>kc8 line uu0 (fiB (bif (F8 line).2 then ((F8 line).1.toList==line.toList) else false) (F46 line) rfl)) uu3
theorem kc9 (line:Za) {K_:Prop} (p0_:line.size<=1048576) (k_:K_):(line.size<=1048576)/\(Imp (.v (.string line)) (.v (.string line)))/\K_:=⟨p0_,Imp.refl _,k_⟩
abbrev kh9 (line:Za):Hint true Tryz.prog:=.call 9 (S9 line) (ok9 line) none
def F47 (line:Za):Bool :=
 (bif (F9 line).2 then ((F9 line).1.toList==line.toList) else false)
def S47 (line:Za):Spec:=⟨[.r (.c (.v (.string line)))],.v (.bool (F47 line)),line.size<=1048576⟩
theorem ok47 (line:Za):(S47 line).ok Tryz.prog 47 :=
 fnG_ok mixed (fn:=Tryz.f47) (ct:=.seq .no (.seq (.reg [(1,kh9 line)]) (.seq .no .no))) Tryz.func47 (fun (hpre0:line.size<=1048576)=>kc9 line uu0 (fiB (bif (F9 line).2 then ((F9 line).1.toList==line.toList) else false) (F47 line) rfl)) uu3
theorem keptSo_eq (line:Za):F46 line=F47 line:=by
 unfold F46 F47
 rw [line_same]
theorem kept_iff (line:Za):F47 line=true↔(F9 line).2=true/\(F9 line).1=line:=by
 unfold F47
 rw [cb1,beq_ba,Qo,Rj]
theorem keptP (line:Za) (h:F47 line=true):KeptP line (F11 line).1:=kept_of line ((kept_iff line).1 h)
theorem not_false {b:Bool} (h:(!b)=false):b=true:=by cases b; exact h.symm; rfl
theorem kix_n (line:Za) (hk:(!F47 line)=false):(2:Int)<=((F11 line).1.length:Int):=by
 have:=(form_two_le _ (keptP line (not_false hk)).form).1; omega
theorem kix0 (line:Za) (hk:(!F47 line)=false):(0:Int)<=0/\(0:Int)<((F11 line).1.length:Int):=by have:=kix_n line hk; omega
theorem kix1 (line:Za) (hk:(!F47 line)=false):(0:Int)<=1/\(1:Int)<((F11 line).1.length:Int):=by have:=kix_n line hk; omega
theorem kix_rule (line:Za) (hk:(!F47 line)=false) (h:(((F11 line).1.getD (Int.toNat 0) default).toList==Zg.toList)=true):(0:Int)<=2/\(2:Int)<((F11 line).1.length:Int):=by
 have hf:=(keptP line (not_false hk)).form
 rw [blit,Sb] at h
 have h:((F11 line).1.getD 0 default).data.toList=[114,117,108,101]:=h
 unfold FormP hostP userP portP ruleP routeP peerP natP doorP at hf
 simp only [h] at hf
 simp at hf
 omega
theorem kix_door (line:Za) (hk:(!F47 line)=false) (h:(((F11 line).1.getD (Int.toNat 0) default).toList==Zb.toList)=true):(0:Int)<=2/\(2:Int)<((F11 line).1.length:Int):=by
 have hf:=(keptP line (not_false hk)).form
 rw [blit,Sb] at h
 have h:((F11 line).1.getD 0 default).data.toList=[100,111,111,114]:=h
 unfold FormP hostP userP portP ruleP routeP peerP natP doorP at hf
 simp only [h] at hf
 simp at hf
 omega
theorem form_true (line:Za) (h:F47 line=true):F36 (F11 line).1=true:=by
 have:=((kept_iff line).1 h).1
 rw [specLine_eq] at this
 cases hc:F36 (F11 line).1 with
 | true=>rfl
 | false=>rw [hc,Sj,Qb] at this; exact this
theorem kept_form (line:Za) (h:F47 line=true):(F34 (F41 line Zd)).1.key=keyN (((F11 line).1.getD 0 default).data.toList)/\F41 line Zd=(F11 line).1:=by
 have hk:=keptP line h
 have e:F41 line Zd=(F11 line).1:=hk.splits
 rw [e]
 obtain ⟨f1,f2⟩:=form_same (F11 line).1
 exact ⟨f2 (f1.trans (form_true line h)),rfl⟩
theorem kept_key (line:Za) (h:F46 line=true):0<=((F34 (F41 line Zd)).1).key/\((F34 (F41 line Zd)).1).key<=((F41 line Zd).length:Int):=by
 rw [keptSo_eq] at h
 obtain ⟨k1,k2⟩:=kept_form line h
 have:=form_key_le _ (keptP line h).form
 rw [k1,k2]
 omega
theorem split_sz (line:Za) (h:line.size<=1048576):∀ k:Nat,((F41 line Zd).getD k default).size<=1048576:=fun k=>by
 show ((splitS line Zd).getD k default).size<=1048576
 rw [splitS_mk]
 refine getD_mk_le _ _ (fun w hw=>?_) k
 have:=splitL_le 32 _ w hw
 have hl:line.data.toList.length=line.size:=Q5
 omega
theorem take_getD (ws:List Za) (n m:Nat) (h:∀ k:Nat,(ws.getD k default).size<=m) (k:Nat):((ws.take n).getD k default).size<=m:=by
 rw [Qe,Rb]
 by_cases hk:k<n
 ·rw [if_pos hk,<- Qe]; exact h k
 ·rw [if_neg hk]; exact Re _
theorem kept_join (line:Za) (hk:(!F46 line)=false) :
  ((F41 line Zd).take (Int.toNat (((F34 (F41 line Zd)).1).key))).length<=140737488355328 /\
  (joinS ((F41 line Zd).take (Int.toNat (((F34 (F41 line Zd)).1).key))) Zd).size<=140737488355328:=by
 have h:=not_false hk
 rw [keptSo_eq] at h
 obtain ⟨k1,k2⟩:=kept_form line h
 rw [k2]
 have hl:(((F11 line).1).take (Int.toNat (((F34 ((F11 line).1)).1).key))).length<=8:=by
  rw [Rm]
  have:=specwords_len line
  omega
 exact ⟨Q0 hl uu1,join_small _ _ (take_getD _ _ _ (specwords_sz line)) hl uu1⟩
theorem kc46 (line:Za) {K_:Prop} (p0_:line.size<=1048576) (k_:K_):(line.size<=1048576)/\(Imp (.v (.string line)) (.v (.string line)))/\K_:=⟨p0_,Imp.refl _,k_⟩
abbrev kh46 (line:Za):Hint false Tryz.prog:=.call 46 (S46 line) (ok46 line) none
def F13 (line:Za):Za :=
 bif (!(F46 line)) then Zf else (F35 ((F41 line Zd).take (F34 (F41 line Zd)).1.key.toNat) Zd)
def S13 (line:Za):Spec:=⟨[.r (.c (.v (.string line)))],.v (.string (F13 line)),line.size<=1048576⟩
theorem ok13 (line:Za):(S13 line).ok Tryz.prog 13 false :=
 fnG_ok mixed (fn:=Tryz.f13) (ct:=.seq .no (.seq (.seq (.reg [(1,kh46 line)]) (.cond (.seq .no .no) .no)) (.seq (.reg [(1,kh41f line Zd)]) (.seq (.reg [(1,kh34 (F41 line Zd))]) (.seq (.reg [(4,kh35 ((F41 line Zd).take (F34 (F41 line Zd)).1.key.toNat) Zd)]) .no))))) Tryz.func13 (fun (hpre0:line.size<=1048576)=>kc46 line uu0 (ifb (!(F46 line)) (fun h1=>fiS Zf (F13 line) (condT h1 rfl)) (fun h1=>have _:0<=(F34 (F41 line Zd)).1.key/\(F34 (F41 line Zd)).1.key<=((F41 line Zd).length:Int):=kept_key line (notEF h1); kc41 line Zd uu0 uu1 uu1 uu1 (fun gv2 gv3=>kc34 (F41 line Zd) (by exact split_sz line (by omega)) (ai (uu0:0<=(0:Int)/\(0:Int)<=(F34 (F41 line Zd)).1.key/\(F34 (F41 line Zd)).1.key<=((F41 line Zd).length:Int)) (kc35 ((F41 line Zd).take (F34 (F41 line Zd)).1.key.toNat) Zd (by exact (kept_join _ (by assumption)).1) (by exact (kept_join _ (by assumption)).2) (fiS (F35 ((F41 line Zd).take (F34 (F41 line Zd)).1.key.toNat) Zd) (F13 line) (condF h1 rfl)))))))) uu3
theorem kc47 (line:Za) {K_:Prop} (p0_:line.size<=1048576) (k_:K_):(line.size<=1048576)/\(Imp (.v (.string line)) (.v (.string line)))/\K_:=⟨p0_,Imp.refl _,k_⟩
abbrev kh47 (line:Za):Hint true Tryz.prog:=.call 47 (S47 line) (ok47 line) none
def F14 (line:Za):Za :=
 bif (!(F47 line)) then Zf else (bif (((F11 line).1.getD (Int.toNat 0) default).toList==Zq.toList) then (bif (((F11 line).1.getD (Int.toNat 0) default).toList==Zq.toList) then ((F11 line).1.getD (Int.toNat 0) default) else (bif (((F11 line).1.getD (Int.toNat 0) default).toList==Zk.toList) then (bif (((F11 line).1.getD (Int.toNat 0) default).toList==Zk.toList) then ((((F11 line).1.getD (Int.toNat 0) default)++Zd)++((F11 line).1.getD (Int.toNat 1) default)) else (bif (((F11 line).1.getD (Int.toNat 0) default).toList==Zg.toList) then (bif (((F11 line).1.getD (Int.toNat 0) default).toList==Zg.toList) then ((((((F11 line).1.getD (Int.toNat 0) default)++Zd)++((F11 line).1.getD (Int.toNat 1) default))++Zd)++((F11 line).1.getD (Int.toNat 2) default)) else line) else (bif (((F11 line).1.getD (Int.toNat 0) default).toList==Zb.toList) then ((((((F11 line).1.getD (Int.toNat 0) default)++Zd)++((F11 line).1.getD (Int.toNat 1) default))++Zd)++((F11 line).1.getD (Int.toNat 2) default)) else line))) else (bif (((F11 line).1.getD (Int.toNat 0) default).toList==Ze.toList) then (bif (((F11 line).1.getD (Int.toNat 0) default).toList==Ze.toList) then ((((F11 line).1.getD (Int.toNat 0) default)++Zd)++((F11 line).1.getD (Int.toNat 1) default)) else (bif (((F11 line).1.getD (Int.toNat 0) default).toList==Zg.toList) then (bif (((F11 line).1.getD (Int.toNat 0) default).toList==Zg.toList) then ((((((F11 line).1.getD (Int.toNat 0) default)++Zd)++((F11 line).1.getD (Int.toNat 1) default))++Zd)++((F11 line).1.getD (Int.toNat 2) default)) else line) else (bif (((F11 line).1.getD (Int.toNat 0) default).toList==Zb.toList) then ((((((F11 line).1.getD (Int.toNat 0) default)++Zd)++((F11 line).1.getD (Int.toNat 1) default))++Zd)++((F11 line).1.getD (Int.toNat 2) default)) else line))) else (bif (((F11 line).1.getD (Int.toNat 0) default).toList==Zh.toList) then ((((F11 line).1.getD (Int.toNat 0) default)++Zd)++((F11 line).1.getD (Int.toNat 1) default)) else (bif (((F11 line).1.getD (Int.toNat 0) default).toList==Zg.toList) then (bif (((F11 line).1.getD (Int.toNat 0) default).toList==Zg.toList) then ((((((F11 line).1.getD (Int.toNat 0) default)++Zd)++((F11 line).1.getD (Int.toNat 1) default))++Zd)++((F11 line).1.getD (Int.toNat 2) default)) else line) else (bif (((F11 line).1.getD (Int.toNat 0) default).toList==Zb.toList) then ((((((F11 line).1.getD (Int.toNat 0) default)++Zd)++((F11 line).1.getD (Int.toNat 1) default))++Zd)++((F11 line).1.getD (Int.toNat 2) default)) else line)))))) else (bif (((F11 line).1.getD (Int.toNat 0) default).toList==Zc.toList) then ((F11 line).1.getD (Int.toNat 0) default) else (bif (((F11 line).1.getD (Int.toNat 0) default).toList==Zk.toList) then (bif (((F11 line).1.getD (Int.toNat 0) default).toList==Zk.toList) then ((((F11 line).1.getD (Int.toNat 0) default)++Zd)++((F11 line).1.getD (Int.toNat 1) default)) else (bif (((F11 line).1.getD (Int.toNat 0) default).toList==Zg.toList) then (bif (((F11 line).1.getD (Int.toNat 0) default).toList==Zg.toList) then ((((((F11 line).1.getD (Int.toNat 0) default)++Zd)++((F11 line).1.getD (Int.toNat 1) default))++Zd)++((F11 line).1.getD (Int.toNat 2) default)) else line) else (bif (((F11 line).1.getD (Int.toNat 0) default).toList==Zb.toList) then ((((((F11 line).1.getD (Int.toNat 0) default)++Zd)++((F11 line).1.getD (Int.toNat 1) default))++Zd)++((F11 line).1.getD (Int.toNat 2) default)) else line))) else (bif (((F11 line).1.getD (Int.toNat 0) default).toList==Ze.toList) then (bif (((F11 line).1.getD (Int.toNat 0) default).toList==Ze.toList) then ((((F11 line).1.getD (Int.toNat 0) default)++Zd)++((F11 line).1.getD (Int.toNat 1) default)) else (bif (((F11 line).1.getD (Int.toNat 0) default).toList==Zg.toList) then (bif (((F11 line).1.getD (Int.toNat 0) default).toList==Zg.toList) then ((((((F11 line).1.getD (Int.toNat 0) default)++Zd)++((F11 line).1.getD (Int.toNat 1) default))++Zd)++((F11 line).1.getD (Int.toNat 2) default)) else line) else (bif (((F11 line).1.getD (Int.toNat 0) default).toList==Zb.toList) then ((((((F11 line).1.getD (Int.toNat 0) default)++Zd)++((F11 line).1.getD (Int.toNat 1) default))++Zd)++((F11 line).1.getD (Int.toNat 2) default)) else line))) else (bif (((F11 line).1.getD (Int.toNat 0) default).toList==Zh.toList) then ((((F11 line).1.getD (Int.toNat 0) default)++Zd)++((F11 line).1.getD (Int.toNat 1) default)) else (bif (((F11 line).1.getD (Int.toNat 0) default).toList==Zg.toList) then (bif (((F11 line).1.getD (Int.toNat 0) default).toList==Zg.toList) then ((((((F11 line).1.getD (Int.toNat 0) default)++Zd)++((F11 line).1.getD (Int.toNat 1) default))++Zd)++((F11 line).1.getD (Int.toNat 2) default)) else line) else (bif (((F11 line).1.getD (Int.toNat 0) default).toList==Zb.toList) then ((((((F11 line).1.getD (Int.toNat 0) default)++Zd)++((F11 line).1.getD (Int.toNat 1) default))++Zd)++((F11 line).1.getD (Int.toNat 2) default)) else line)))))))
def S14 (line:Za):Spec:=⟨[.r (.c (.v (.string line)))],.v (.string (F14 line)),line.size<=1048576⟩
theorem ok14 (line:Za):(S14 line).ok Tryz.prog 14 :=
 fnG_ok mixed (fn:=Tryz.f14) (ct:=.seq .no (.seq (.seq (.reg [(1,kh47 line)]) (.cond (.seq .no .no) .no)) (.seq (.reg [(1,kh11 line)]) (.seq (.seq .no (.blk (.seq (.seq .no (.cond .no .no)) (.cond (.seq .no .no) (.seq (.seq .no (.cond .no (.seq .no (.cond .no .no)))) (.cond (.seq .no .no) (.seq (.seq .no (.cond .no .no)) (.cond (.seq .no .no) .no)))))))) (.seq .no .no))))) Tryz.func14 (fun (hpre0:line.size<=1048576)=>kc47 line uu0 (ifb (!(F47 line)) (fun h1=>fiS Zf (F14 line) (condT h1 rfl)) (fun h1=>kc11 line uu0 (fun gv2 gv3=>ai (uu11:0<=(0:Int)/\(0:Int)<((F11 line).1.length:Int)) (ifb (((F11 line).1.getD (Int.toNat 0) default).toList==Zq.toList) (fun h4=>ifb (((F11 line).1.getD (Int.toNat 0) default).toList==Zq.toList) (fun h5=>ai (uu11:0<=(0:Int)/\(0:Int)<((F11 line).1.length:Int)) (fiS ((F11 line).1.getD (Int.toNat 0) default) (F14 line) (condF h1 (condT h4 (condT h5 rfl))))) (fun h5=>ifb (((F11 line).1.getD (Int.toNat 0) default).toList==Zk.toList) (fun h6=>ifb (((F11 line).1.getD (Int.toNat 0) default).toList==Zk.toList) (fun h7=>ai (uu11:0<=(0:Int)/\(0:Int)<((F11 line).1.length:Int)) (ai (uu5:((((F11 line).1.getD (Int.toNat 0) default).size+Zd.size:Nat):Int)<=9223372036854775807) (ai (uu15:0<=(1:Int)/\(1:Int)<((F11 line).1.length:Int)) (ai (uu5:(((((F11 line).1.getD (Int.toNat 0) default)++Zd).size+((F11 line).1.getD (Int.toNat 1) default).size:Nat):Int)<=9223372036854775807) (fiS ((((F11 line).1.getD (Int.toNat 0) default)++Zd)++((F11 line).1.getD (Int.toNat 1) default)) (F14 line) (condF h1 (condT h4 (condF h5 (condT h6 (condT h7 rfl)))))))))) (fun h7=>ifb (((F11 line).1.getD (Int.toNat 0) default).toList==Zg.toList) (fun h8=>ifb (((F11 line).1.getD (Int.toNat 0) default).toList==Zg.toList) (fun h9=>ai (uu11:0<=(0:Int)/\(0:Int)<((F11 line).1.length:Int)) (ai (uu5:((((F11 line).1.getD (Int.toNat 0) default).size+Zd.size:Nat):Int)<=9223372036854775807) (ai (uu15:0<=(1:Int)/\(1:Int)<((F11 line).1.length:Int)) (ai (uu5:(((((F11 line).1.getD (Int.toNat 0) default)++Zd).size+((F11 line).1.getD (Int.toNat 1) default).size:Nat):Int)<=9223372036854775807) (ai (uu5:((((((F11 line).1.getD (Int.toNat 0) default)++Zd)++((F11 line).1.getD (Int.toNat 1) default)).size+Zd.size:Nat):Int)<=9223372036854775807) (ai (uu32:0<=(2:Int)/\(2:Int)<((F11 line).1.length:Int)) (ai (uu5:(((((((F11 line).1.getD (Int.toNat 0) default)++Zd)++((F11 line).1.getD (Int.toNat 1) default))++Zd).size+((F11 line).1.getD (Int.toNat 2) default).size:Nat):Int)<=9223372036854775807) (fiS ((((((F11 line).1.getD (Int.toNat 0) default)++Zd)++((F11 line).1.getD (Int.toNat 1) default))++Zd)++((F11 line).1.getD (Int.toNat 2) default)) (F14 line) (condF h1 (condT h4 (condF h5 (condT h6 (condF h7 (condT h8 (condT h9 rfl))))))))))))))) (fun h9=>fiS line (F14 line) (condF h1 (condT h4 (condF h5 (condT h6 (condF h7 (condT h8 (condF h9 rfl))))))))) (fun h8=>ifb (((F11 line).1.getD (Int.toNat 0) default).toList==Zb.toList) (fun h10=>ai (uu11:0<=(0:Int)/\(0:Int)<((F11 line).1.length:Int)) (ai (uu5:((((F11 line).1.getD (Int.toNat 0) default).size+Zd.size:Nat):Int)<=9223372036854775807) (ai (uu15:0<=(1:Int)/\(1:Int)<((F11 line).1.length:Int)) (ai (uu5:(((((F11 line).1.getD (Int.toNat 0) default)++Zd).size+((F11 line).1.getD (Int.toNat 1) default).size:Nat):Int)<=9223372036854775807) (ai (uu5:((((((F11 line).1.getD (Int.toNat 0) default)++Zd)++((F11 line).1.getD (Int.toNat 1) default)).size+Zd.size:Nat):Int)<=9223372036854775807) (ai (uu33:0<=(2:Int)/\(2:Int)<((F11 line).1.length:Int)) (ai (uu5:(((((((F11 line).1.getD (Int.toNat 0) default)++Zd)++((F11 line).1.getD (Int.toNat 1) default))++Zd).size+((F11 line).1.getD (Int.toNat 2) default).size:Nat):Int)<=9223372036854775807) (fiS ((((((F11 line).1.getD (Int.toNat 0) default)++Zd)++((F11 line).1.getD (Int.toNat 1) default))++Zd)++((F11 line).1.getD (Int.toNat 2) default)) (F14 line) (condF h1 (condT h4 (condF h5 (condT h6 (condF h7 (condF h8 (condT h10 rfl))))))))))))))) (fun h10=>fiS line (F14 line) (condF h1 (condT h4 (condF h5 (condT h6 (condF h7 (condF h8 (condF h10 rfl))))))))))) (fun h6=>ifb (((F11 line).1.getD (Int.toNat 0) default).toList==Ze.toList) (fun h11=>ifb (((F11 line).1.getD (Int.toNat 0) default).toList==Ze.toList) (fun h12=>ai (uu11:0<=(0:Int)/\(0:Int)<((F11 line).1.length:Int)) (ai (uu5:((((F11 line).1.getD (Int.toNat 0) default).size+Zd.size:Nat):Int)<=9223372036854775807) (ai (uu15:0<=(1:Int)/\(1:Int)<((F11 line).1.length:Int)) (ai (uu5:(((((F11 line).1.getD (Int.toNat 0) default)++Zd).size+((F11 line).1.getD (Int.toNat 1) default).size:Nat):Int)<=9223372036854775807) (fiS ((((F11 line).1.getD (Int.toNat 0) default)++Zd)++((F11 line).1.getD (Int.toNat 1) default)) (F14 line) (condF h1 (condT h4 (condF h5 (condF h6 (condT h11 (condT h12 rfl))))))))))) (fun h12=>ifb (((F11 line).1.getD (Int.toNat 0) default).toList==Zg.toList) (fun h13=>ifb (((F11 line).1.getD (Int.toNat 0) default).toList==Zg.toList) (fun h14=>ai (uu11:0<=(0:Int)/\(0:Int)<((F11 line).1.length:Int)) (ai (uu5:((((F11 line).1.getD (Int.toNat 0) default).size+Zd.size:Nat):Int)<=9223372036854775807) (ai (uu15:0<=(1:Int)/\(1:Int)<((F11 line).1.length:Int)) (ai (uu5:(((((F11 line).1.getD (Int.toNat 0) default)++Zd).size+((F11 line).1.getD (Int.toNat 1) default).size:Nat):Int)<=9223372036854775807) (ai (uu5:((((((F11 line).1.getD (Int.toNat 0) default)++Zd)++((F11 line).1.getD (Int.toNat 1) default)).size+Zd.size:Nat):Int)<=9223372036854775807) (ai (uu32:0<=(2:Int)/\(2:Int)<((F11 line).1.length:Int)) (ai (uu5:(((((((F11 line).1.getD (Int.toNat 0) default)++Zd)++((F11 line).1.getD (Int.toNat 1) default))++Zd).size+((F11 line).1.getD (Int.toNat 2) default).size:Nat):Int)<=9223372036854775807) (fiS ((((((F11 line).1.getD (Int.toNat 0) default)++Zd)++((F11 line).1.getD (Int.toNat 1) default))++Zd)++((F11 line).1.getD (Int.toNat 2) default)) (F14 line) (condF h1 (condT h4 (condF h5 (condF h6 (condT h11 (condF h12 (condT h13 (condT h14 rfl)))))))))))))))) (fun h14=>fiS line (F14 line) (condF h1 (condT h4 (condF h5 (condF h6 (condT h11 (condF h12 (condT h13 (condF h14 rfl)))))))))) (fun h13=>ifb (((F11 line).1.getD (Int.toNat 0) default).toList==Zb.toList) (fun h15=>ai (uu11:0<=(0:Int)/\(0:Int)<((F11 line).1.length:Int)) (ai (uu5:((((F11 line).1.getD (Int.toNat 0) default).size+Zd.size:Nat):Int)<=9223372036854775807) (ai (uu15:0<=(1:Int)/\(1:Int)<((F11 line).1.length:Int)) (ai (uu5:(((((F11 line).1.getD (Int.toNat 0) default)++Zd).size+((F11 line).1.getD (Int.toNat 1) default).size:Nat):Int)<=9223372036854775807) (ai (uu5:((((((F11 line).1.getD (Int.toNat 0) default)++Zd)++((F11 line).1.getD (Int.toNat 1) default)).size+Zd.size:Nat):Int)<=9223372036854775807) (ai (uu33:0<=(2:Int)/\(2:Int)<((F11 line).1.length:Int)) (ai (uu5:(((((((F11 line).1.getD (Int.toNat 0) default)++Zd)++((F11 line).1.getD (Int.toNat 1) default))++Zd).size+((F11 line).1.getD (Int.toNat 2) default).size:Nat):Int)<=9223372036854775807) (fiS ((((((F11 line).1.getD (Int.toNat 0) default)++Zd)++((F11 line).1.getD (Int.toNat 1) default))++Zd)++((F11 line).1.getD (Int.toNat 2) default)) (F14 line) (condF h1 (condT h4 (condF h5 (condF h6 (condT h11 (condF h12 (condF h13 (condT h15 rfl)))))))))))))))) (fun h15=>fiS line (F14 line) (condF h1 (condT h4 (condF h5 (condF h6 (condT h11 (condF h12 (condF h13 (condF h15 rfl)))))))))))) (fun h11=>ifb (((F11 line).1.getD (Int.toNat 0) default).toList==Zh.toList) (fun h16=>ai (uu11:0<=(0:Int)/\(0:Int)<((F11 line).1.length:Int)) (ai (uu5:((((F11 line).1.getD (Int.toNat 0) default).size+Zd.size:Nat):Int)<=9223372036854775807) (ai (uu15:0<=(1:Int)/\(1:Int)<((F11 line).1.length:Int)) (ai (uu5:(((((F11 line).1.getD (Int.toNat 0) default)++Zd).size+((F11 line).1.getD (Int.toNat 1) default).size:Nat):Int)<=9223372036854775807) (fiS ((((F11 line).1.getD (Int.toNat 0) default)++Zd)++((F11 line).1.getD (Int.toNat 1) default)) (F14 line) (condF h1 (condT h4 (condF h5 (condF h6 (condF h11 (condT h16 rfl))))))))))) (fun h16=>ifb (((F11 line).1.getD (Int.toNat 0) default).toList==Zg.toList) (fun h17=>ifb (((F11 line).1.getD (Int.toNat 0) default).toList==Zg.toList) (fun h18=>ai (uu11:0<=(0:Int)/\(0:Int)<((F11 line).1.length:Int)) (ai (uu5:((((F11 line).1.getD (Int.toNat 0) default).size+Zd.size:Nat):Int)<=9223372036854775807) (ai (uu15:0<=(1:Int)/\(1:Int)<((F11 line).1.length:Int)) (ai (uu5:(((((F11 line).1.getD (Int.toNat 0) default)++Zd).size+((F11 line).1.getD (Int.toNat 1) default).size:Nat):Int)<=9223372036854775807) (ai (uu5:((((((F11 line).1.getD (Int.toNat 0) default)++Zd)++((F11 line).1.getD (Int.toNat 1) default)).size+Zd.size:Nat):Int)<=9223372036854775807) (ai (uu32:0<=(2:Int)/\(2:Int)<((F11 line).1.length:Int)) (ai (uu5:(((((((F11 line).1.getD (Int.toNat 0) default)++Zd)++((F11 line).1.getD (Int.toNat 1) default))++Zd).size+((F11 line).1.getD (Int.toNat 2) default).size:Nat):Int)<=9223372036854775807) (fiS ((((((F11 line).1.getD (Int.toNat 0) default)++Zd)++((F11 line).1.getD (Int.toNat 1) default))++Zd)++((F11 line).1.getD (Int.toNat 2) default)) (F14 line) (condF h1 (condT h4 (condF h5 (condF h6 (condF h11 (condF h16 (condT h17 (condT h18 rfl)))))))))))))))) (fun h18=>fiS line (F14 line) (condF h1 (condT h4 (condF h5 (condF h6 (condF h11 (condF h16 (condT h17 (condF h18 rfl)))))))))) (fun h17=>ifb (((F11 line).1.getD (Int.toNat 0) default).toList==Zb.toList) (fun h19=>ai (uu11:0<=(0:Int)/\(0:Int)<((F11 line).1.length:Int)) (ai (uu5:((((F11 line).1.getD (Int.toNat 0) default).size+Zd.size:Nat):Int)<=9223372036854775807) (ai (uu15:0<=(1:Int)/\(1:Int)<((F11 line).1.length:Int)) (ai (uu5:(((((F11 line).1.getD (Int.toNat 0) default)++Zd).size+((F11 line).1.getD (Int.toNat 1) default).size:Nat):Int)<=9223372036854775807) (ai (uu5:((((((F11 line).1.getD (Int.toNat 0) default)++Zd)++((F11 line).1.getD (Int.toNat 1) default)).size+Zd.size:Nat):Int)<=9223372036854775807) (ai (uu33:0<=(2:Int)/\(2:Int)<((F11 line).1.length:Int)) (ai (uu5:(((((((F11 line).1.getD (Int.toNat 0) default)++Zd)++((F11 line).1.getD (Int.toNat 1) default))++Zd).size+((F11 line).1.getD (Int.toNat 2) default).size:Nat):Int)<=9223372036854775807) (fiS ((((((F11 line).1.getD (Int.toNat 0) default)++Zd)++((F11 line).1.getD (Int.toNat 1) default))++Zd)++((F11 line).1.getD (Int.toNat 2) default)) (F14 line) (condF h1 (condT h4 (condF h5 (condF h6 (condF h11 (condF h16 (condF h17 (condT h19 rfl)))))))))))))))) (fun h19=>fiS line (F14 line) (condF h1 (condT h4 (condF h5 (condF h6 (condF h11 (condF h16 (condF h17 (condF h19 rfl))))))))))))))) (fun h4=>ifb (((F11 line).1.getD (Int.toNat 0) default).toList==Zc.toList) (fun h20=>ai (uu11:0<=(0:Int)/\(0:Int)<((F11 line).1.length:Int)) (fiS ((F11 line).1.getD (Int.toNat 0) default) (F14 line) (condF h1 (condF h4 (condT h20 rfl))))) (fun h20=>ifb (((F11 line).1.getD (Int.toNat 0) default).toList==Zk.toList) (fun h21=>ifb (((F11 line).1.getD (Int.toNat 0) default).toList==Zk.toList) (fun h22=>ai (uu11:0<=(0:Int)/\(0:Int)<((F11 line).1.length:Int)) (ai (uu5:((((F11 line).1.getD (Int.toNat 0) default).size+Zd.size:Nat):Int)<=9223372036854775807) (ai (uu15:0<=(1:Int)/\(1:Int)<((F11 line).1.length:Int)) (ai (uu5:(((((F11 line).1.getD (Int.toNat 0) default)++Zd).size+((F11 line).1.getD (Int.toNat 1) default).size:Nat):Int)<=9223372036854775807) (fiS ((((F11 line).1.getD (Int.toNat 0) default)++Zd)++((F11 line).1.getD (Int.toNat 1) default)) (F14 line) (condF h1 (condF h4 (condF h20 (condT h21 (condT h22 rfl)))))))))) (fun h22=>ifb (((F11 line).1.getD (Int.toNat 0) default).toList==Zg.toList) (fun h23=>ifb (((F11 line).1.getD (Int.toNat 0) default).toList==Zg.toList) (fun h24=>ai (uu11:0<=(0:Int)/\(0:Int)<((F11 line).1.length:Int)) (ai (uu5:((((F11 line).1.getD (Int.toNat 0) default).size+Zd.size:Nat):Int)<=9223372036854775807) (ai (uu15:0<=(1:Int)/\(1:Int)<((F11 line).1.length:Int)) (ai (uu5:(((((F11 line).1.getD (Int.toNat 0) default)++Zd).size+((F11 line).1.getD (Int.toNat 1) default).size:Nat):Int)<=9223372036854775807) (ai (uu5:((((((F11 line).1.getD (Int.toNat 0) default)++Zd)++((F11 line).1.getD (Int.toNat 1) default)).size+Zd.size:Nat):Int)<=9223372036854775807) (ai (uu32:0<=(2:Int)/\(2:Int)<((F11 line).1.length:Int)) (ai (uu5:(((((((F11 line).1.getD (Int.toNat 0) default)++Zd)++((F11 line).1.getD (Int.toNat 1) default))++Zd).size+((F11 line).1.getD (Int.toNat 2) default).size:Nat):Int)<=9223372036854775807) (fiS ((((((F11 line).1.getD (Int.toNat 0) default)++Zd)++((F11 line).1.getD (Int.toNat 1) default))++Zd)++((F11 line).1.getD (Int.toNat 2) default)) (F14 line) (condF h1 (condF h4 (condF h20 (condT h21 (condF h22 (condT h23 (condT h24 rfl))))))))))))))) (fun h24=>fiS line (F14 line) (condF h1 (condF h4 (condF h20 (condT h21 (condF h22 (condT h23 (condF h24 rfl))))))))) (fun h23=>ifb (((F11 line).1.getD (Int.toNat 0) default).toList==Zb.toList) (fun h25=>ai (uu11:0<=(0:Int)/\(0:Int)<((F11 line).1.length:Int)) (ai (uu5:((((F11 line).1.getD (Int.toNat 0) default).size+Zd.size:Nat):Int)<=9223372036854775807) (ai (uu15:0<=(1:Int)/\(1:Int)<((F11 line).1.length:Int)) (ai (uu5:(((((F11 line).1.getD (Int.toNat 0) default)++Zd).size+((F11 line).1.getD (Int.toNat 1) default).size:Nat):Int)<=9223372036854775807) (ai (uu5:((((((F11 line).1.getD (Int.toNat 0) default)++Zd)++((F11 line).1.getD (Int.toNat 1) default)).size+Zd.size:Nat):Int)<=9223372036854775807) (ai (uu33:0<=(2:Int)/\(2:Int)<((F11 line).1.length:Int)) (ai (uu5:(((((((F11 line).1.getD (Int.toNat 0) default)++Zd)++((F11 line).1.getD (Int.toNat 1) default))++Zd).size+((F11 line).1.getD (Int.toNat 2) default).size:Nat):Int)<=9223372036854775807) (fiS ((((((F11 line).1.getD (Int.toNat 0) default)++Zd)++((F11 line).1.getD (Int.toNat 1) default))++Zd)++((F11 line).1.getD (Int.toNat 2) default)) (F14 line) (condF h1 (condF h4 (condF h20 (condT h21 (condF h22 (condF h23 (condT h25 rfl))))))))))))))) (fun h25=>fiS line (F14 line) (condF h1 (condF h4 (condF h20 (condT h21 (condF h22 (condF h23 (condF h25 rfl))))))))))) (fun h21=>ifb (((F11 line).1.getD (Int.toNat 0) default).toList==Ze.toList) (fun h26=>ifb (((F11 line).1.getD (Int.toNat 0) default).toList==Ze.toList) (fun h27=>ai (uu11:0<=(0:Int)/\(0:Int)<((F11 line).1.length:Int)) (ai (uu5:((((F11 line).1.getD (Int.toNat 0) default).size+Zd.size:Nat):Int)<=9223372036854775807) (ai (uu15:0<=(1:Int)/\(1:Int)<((F11 line).1.length:Int)) (ai (uu5:(((((F11 line).1.getD (Int.toNat 0) default)++Zd).size+((F11 line).1.getD (Int.toNat 1) default).size:Nat):Int)<=9223372036854775807) (fiS ((((F11 line).1.getD (Int.toNat 0) default)++Zd)++((F11 line).1.getD (Int.toNat 1) default)) (F14 line) (condF h1 (condF h4 (condF h20 (condF h21 (condT h26 (condT h27 rfl))))))))))) (fun h27=>ifb (((F11 line).1.getD (Int.toNat 0) default).toList==Zg.toList) (fun h28=>ifb (((F11 line).1.getD (Int.toNat 0) default).toList==Zg.toList) (fun h29=>ai (uu11:0<=(0:Int)/\(0:Int)<((F11 line).1.length:Int)) (ai (uu5:((((F11 line).1.getD (Int.toNat 0) default).size+Zd.size:Nat):Int)<=9223372036854775807) (ai (uu15:0<=(1:Int)/\(1:Int)<((F11 line).1.length:Int)) (ai (uu5:(((((F11 line).1.getD (Int.toNat 0) default)++Zd).size+((F11 line).1.getD (Int.toNat 1) default).size:Nat):Int)<=9223372036854775807) (ai (uu5:((((((F11 line).1.getD (Int.toNat 0) default)++Zd)++((F11 line).1.getD (Int.toNat 1) default)).size+Zd.size:Nat):Int)<=9223372036854775807) (ai (uu32:0<=(2:Int)/\(2:Int)<((F11 line).1.length:Int)) (ai (uu5:(((((((F11 line).1.getD (Int.toNat 0) default)++Zd)++((F11 line).1.getD (Int.toNat 1) default))++Zd).size+((F11 line).1.getD (Int.toNat 2) default).size:Nat):Int)<=9223372036854775807) (fiS ((((((F11 line).1.getD (Int.toNat 0) default)++Zd)++((F11 line).1.getD (Int.toNat 1) default))++Zd)++((F11 line).1.getD (Int.toNat 2) default)) (F14 line) (condF h1 (condF h4 (condF h20 (condF h21 (condT h26 (condF h27 (condT h28 (condT h29 rfl)))))))))))))))) (fun h29=>fiS line (F14 line) (condF h1 (condF h4 (condF h20 (condF h21 (condT h26 (condF h27 (condT h28 (condF h29 rfl)))))))))) (fun h28=>ifb (((F11 line).1.getD (Int.toNat 0) default).toList==Zb.toList) (fun h30=>ai (uu11:0<=(0:Int)/\(0:Int)<((F11 line).1.length:Int)) (ai (uu5:((((F11 line).1.getD (Int.toNat 0) default).size+Zd.size:Nat):Int)<=9223372036854775807) (ai (uu15:0<=(1:Int)/\(1:Int)<((F11 line).1.length:Int)) (ai (uu5:(((((F11 line).1.getD (Int.toNat 0) default)++Zd).size+((F11 line).1.getD (Int.toNat 1) default).size:Nat):Int)<=9223372036854775807) (ai (uu5:((((((F11 line).1.getD (Int.toNat 0) default)++Zd)++((F11 line).1.getD (Int.toNat 1) default)).size+Zd.size:Nat):Int)<=9223372036854775807) (ai (uu33:0<=(2:Int)/\(2:Int)<((F11 line).1.length:Int)) (ai (uu5:(((((((F11 line).1.getD (Int.toNat 0) default)++Zd)++((F11 line).1.getD (Int.toNat 1) default))++Zd).size+((F11 line).1.getD (Int.toNat 2) default).size:Nat):Int)<=9223372036854775807) (fiS ((((((F11 line).1.getD (Int.toNat 0) default)++Zd)++((F11 line).1.getD (Int.toNat 1) default))++Zd)++((F11 line).1.getD (Int.toNat 2) default)) (F14 line) (condF h1 (condF h4 (condF h20 (condF h21 (condT h26 (condF h27 (condF h28 (condT h30 rfl)))))))))))))))) (fun h30=>fiS line (F14 line) (condF h1 (condF h4 (condF h20 (condF h21 (condT h26 (condF h27 (condF h28 (condF h30 rfl)))))))))))) (fun h26=>ifb (((F11 line).1.getD (Int.toNat 0) default).toList==Zh.toList) (fun h31=>ai (uu11:0<=(0:Int)/\(0:Int)<((F11 line).1.length:Int)) (ai (uu5:((((F11 line).1.getD (Int.toNat 0) default).size+Zd.size:Nat):Int)<=9223372036854775807) (ai (uu15:0<=(1:Int)/\(1:Int)<((F11 line).1.length:Int)) (ai (uu5:(((((F11 line).1.getD (Int.toNat 0) default)++Zd).size+((F11 line).1.getD (Int.toNat 1) default).size:Nat):Int)<=9223372036854775807) (fiS ((((F11 line).1.getD (Int.toNat 0) default)++Zd)++((F11 line).1.getD (Int.toNat 1) default)) (F14 line) (condF h1 (condF h4 (condF h20 (condF h21 (condF h26 (condT h31 rfl))))))))))) (fun h31=>ifb (((F11 line).1.getD (Int.toNat 0) default).toList==Zg.toList) (fun h32=>ifb (((F11 line).1.getD (Int.toNat 0) default).toList==Zg.toList) (fun h33=>ai (uu11:0<=(0:Int)/\(0:Int)<((F11 line).1.length:Int)) (ai (uu5:((((F11 line).1.getD (Int.toNat 0) default).size+Zd.size:Nat):Int)<=9223372036854775807) (ai (uu15:0<=(1:Int)/\(1:Int)<((F11 line).1.length:Int)) (ai (uu5:(((((F11 line).1.getD (Int.toNat 0) default)++Zd).size+((F11 line).1.getD (Int.toNat 1) default).size:Nat):Int)<=9223372036854775807) (ai (uu5:((((((F11 line).1.getD (Int.toNat 0) default)++Zd)++((F11 line).1.getD (Int.toNat 1) default)).size+Zd.size:Nat):Int)<=9223372036854775807) (ai (uu32:0<=(2:Int)/\(2:Int)<((F11 line).1.length:Int)) (ai (uu5:(((((((F11 line).1.getD (Int.toNat 0) default)++Zd)++((F11 line).1.getD (Int.toNat 1) default))++Zd).size+((F11 line).1.getD (Int.toNat 2) default).size:Nat):Int)<=9223372036854775807) (fiS ((((((F11 line).1.getD (Int.toNat 0) default)++Zd)++((F11 line).1.getD (Int.toNat 1) default))++Zd)++((F11 line).1.getD (Int.toNat 2) default)) (F14 line) (condF h1 (condF h4 (condF h20 (condF h21 (condF h26 (condF h31 (condT h32 (condT h33 rfl)))))))))))))))) (fun h33=>fiS line (F14 line) (condF h1 (condF h4 (condF h20 (condF h21 (condF h26 (condF h31 (condT h32 (condF h33 rfl)))))))))) (fun h32=>ifb (((F11 line).1.getD (Int.toNat 0) default).toList==Zb.toList) (fun h34=>ai (uu11:0<=(0:Int)/\(0:Int)<((F11 line).1.length:Int)) (ai (uu5:((((F11 line).1.getD (Int.toNat 0) default).size+Zd.size:Nat):Int)<=9223372036854775807) (ai (uu15:0<=(1:Int)/\(1:Int)<((F11 line).1.length:Int)) (ai (uu5:(((((F11 line).1.getD (Int.toNat 0) default)++Zd).size+((F11 line).1.getD (Int.toNat 1) default).size:Nat):Int)<=9223372036854775807) (ai (uu5:((((((F11 line).1.getD (Int.toNat 0) default)++Zd)++((F11 line).1.getD (Int.toNat 1) default)).size+Zd.size:Nat):Int)<=9223372036854775807) (ai (uu33:0<=(2:Int)/\(2:Int)<((F11 line).1.length:Int)) (ai (uu5:(((((((F11 line).1.getD (Int.toNat 0) default)++Zd)++((F11 line).1.getD (Int.toNat 1) default))++Zd).size+((F11 line).1.getD (Int.toNat 2) default).size:Nat):Int)<=9223372036854775807) (fiS ((((((F11 line).1.getD (Int.toNat 0) default)++Zd)++((F11 line).1.getD (Int.toNat 1) default))++Zd)++((F11 line).1.getD (Int.toNat 2) default)) (F14 line) (condF h1 (condF h4 (condF h20 (condF h21 (condF h26 (condF h31 (condF h32 (condT h34 rfl)))))))))))))))) (fun h34=>fiS line (F14 line) (condF h1 (condF h4 (condF h20 (condF h21 (condF h26 (condF h31 (condF h32 (condF h34 rfl)))))))))))))))))))) uu3
theorem join1 (a sp:Za):joinS [a] sp=a:=ba_ext (by show Lib.join _ _=_; exact Lib.join_one _ _)
theorem joinS_data (ws:List Za) (sp:Za):(joinS ws sp).data.toList=Lib.join (ws.map (·.data.toList)) sp.data.toList:=rfl
theorem join2 (a b sp:Za):joinS [a,b] sp=(a++sp)++b:=ba_ext (by
 rw [joinS_data,Rc,Lib.join_cons]
 simp [Lib.joinTail,Ti,Tr,Q1])
theorem join3 (a b c sp:Za):joinS [a,b,c] sp=(((a++sp)++b)++sp)++c:=ba_ext (by
 rw [joinS_data,Rc,Lib.join_cons]
 simp [Lib.joinTail,Ti,Tr,Q1])
theorem take_one (w:List Za) (h:1<=w.length):w.take 1=[w.getD 0 default]:=by
 match w,h with
 | a :: _,_=>rfl
theorem take_two (w:List Za) (h:2<=w.length):w.take 2=[w.getD 0 default,w.getD 1 default]:=by
 match w,h with
 | a :: b :: _,_=>rfl
theorem take_three (w:List Za) (h:3<=w.length):w.take 3=[w.getD 0 default,w.getD 1 default,w.getD 2 default]:=by
 match w,h with
 | a :: b :: c :: _,_=>rfl
theorem key_eq (line:Za) (h:F47 line=true):F14 line=joinS ((F11 line).1.take (keyN (((F11 line).1.getD 0 default).data.toList)).toNat) Zd:=by
 have hk:=keptP line h
 have hj:=hk.joins
 unfold F14
 have e0:(F11 line).1.getD (Int.toNat 0) default=(F11 line).1.getD 0 default:=rfl
 have e1:(F11 line).1.getD (Int.toNat 1) default=(F11 line).1.getD 1 default:=rfl
 have e2:(F11 line).1.getD (Int.toNat 2) default=(F11 line).1.getD 2 default:=rfl
 simp only [h,Sc,Qb,e0,e1,e2,blit]
 have hf:=hk.form
 generalize (F11 line).1=w at hf hj
 rcases hf with hf | hf | hf | hf | hf | hf | hf | hf
 ·have h0:=hf.1
  have hn:keyN (w.getD 0 default).data.toList=1:=by rw [h0]; decide
  have hl:2<=w.length:=by unfold hostP at hf; omega
  rw [hn,show ((1:Int).toNat)=1 from rfl]
  simp only [h0,show (([104,111,115,116]:List UInt8)==([104,111,115,116]:List UInt8))=true from by decide ,show (([104,111,115,116]:List UInt8)==([117,115,101,114]:List UInt8))=false from by decide ,show (([104,111,115,116]:List UInt8)==([112,111,114,116]:List UInt8))=false from by decide ,show (([104,111,115,116]:List UInt8)==([114,117,108,101]:List UInt8))=false from by decide ,show (([104,111,115,116]:List UInt8)==([114,111,117,116,101]:List UInt8))=false from by decide ,show (([104,111,115,116]:List UInt8)==([112,101,101,114]:List UInt8))=false from by decide ,show (([104,111,115,116]:List UInt8)==([110,97,116]:List UInt8))=false from by decide ,show (([104,111,115,116]:List UInt8)==([100,111,111,114]:List UInt8))=false from by decide,Qc,Qb]
  rw [take_one w uu0,join1]
 ·have h0:=hf.1
  have hn:keyN (w.getD 0 default).data.toList=2:=by rw [h0]; decide
  have hl:2<=w.length:=by unfold userP at hf; omega
  rw [hn,show ((2:Int).toNat)=2 from rfl]
  simp only [h0,show (([117,115,101,114]:List UInt8)==([104,111,115,116]:List UInt8))=false from by decide ,show (([117,115,101,114]:List UInt8)==([117,115,101,114]:List UInt8))=true from by decide ,show (([117,115,101,114]:List UInt8)==([112,111,114,116]:List UInt8))=false from by decide ,show (([117,115,101,114]:List UInt8)==([114,117,108,101]:List UInt8))=false from by decide ,show (([117,115,101,114]:List UInt8)==([114,111,117,116,101]:List UInt8))=false from by decide ,show (([117,115,101,114]:List UInt8)==([112,101,101,114]:List UInt8))=false from by decide ,show (([117,115,101,114]:List UInt8)==([110,97,116]:List UInt8))=false from by decide ,show (([117,115,101,114]:List UInt8)==([100,111,111,114]:List UInt8))=false from by decide,Qc,Qb]
  rw [take_two w uu0,join2]
 ·have h0:=hf.1
  have hn:keyN (w.getD 0 default).data.toList=2:=by rw [h0]; decide
  have hl:2<=w.length:=by unfold portP at hf; omega
  rw [hn,show ((2:Int).toNat)=2 from rfl]
  simp only [h0,show (([112,111,114,116]:List UInt8)==([104,111,115,116]:List UInt8))=false from by decide ,show (([112,111,114,116]:List UInt8)==([117,115,101,114]:List UInt8))=false from by decide ,show (([112,111,114,116]:List UInt8)==([112,111,114,116]:List UInt8))=true from by decide ,show (([112,111,114,116]:List UInt8)==([114,117,108,101]:List UInt8))=false from by decide ,show (([112,111,114,116]:List UInt8)==([114,111,117,116,101]:List UInt8))=false from by decide ,show (([112,111,114,116]:List UInt8)==([112,101,101,114]:List UInt8))=false from by decide ,show (([112,111,114,116]:List UInt8)==([110,97,116]:List UInt8))=false from by decide ,show (([112,111,114,116]:List UInt8)==([100,111,111,114]:List UInt8))=false from by decide,Qc,Qb]
  rw [take_two w uu0,join2]
 ·have h0:=hf.1
  have hn:keyN (w.getD 0 default).data.toList=3:=by rw [h0]; decide
  have hl:3<=w.length:=by unfold ruleP at hf; omega
  rw [hn,show ((3:Int).toNat)=3 from rfl]
  simp only [h0,show (([114,117,108,101]:List UInt8)==([104,111,115,116]:List UInt8))=false from by decide ,show (([114,117,108,101]:List UInt8)==([117,115,101,114]:List UInt8))=false from by decide ,show (([114,117,108,101]:List UInt8)==([112,111,114,116]:List UInt8))=false from by decide ,show (([114,117,108,101]:List UInt8)==([114,117,108,101]:List UInt8))=true from by decide ,show (([114,117,108,101]:List UInt8)==([114,111,117,116,101]:List UInt8))=false from by decide ,show (([114,117,108,101]:List UInt8)==([112,101,101,114]:List UInt8))=false from by decide ,show (([114,117,108,101]:List UInt8)==([110,97,116]:List UInt8))=false from by decide ,show (([114,117,108,101]:List UInt8)==([100,111,111,114]:List UInt8))=false from by decide,Qc,Qb]
  rw [take_three w uu0,join3]
 ·have h0:=hf.1
  have hn:keyN (w.getD 0 default).data.toList=3:=by rw [h0]; decide
  have hl:3<=w.length:=by unfold routeP at hf; omega
  rw [hn,show ((3:Int).toNat)=3 from rfl]
  simp only [h0,show (([114,111,117,116,101]:List UInt8)==([104,111,115,116]:List UInt8))=false from by decide ,show (([114,111,117,116,101]:List UInt8)==([117,115,101,114]:List UInt8))=false from by decide ,show (([114,111,117,116,101]:List UInt8)==([112,111,114,116]:List UInt8))=false from by decide ,show (([114,111,117,116,101]:List UInt8)==([114,117,108,101]:List UInt8))=false from by decide ,show (([114,111,117,116,101]:List UInt8)==([114,111,117,116,101]:List UInt8))=true from by decide ,show (([114,111,117,116,101]:List UInt8)==([112,101,101,114]:List UInt8))=false from by decide ,show (([114,111,117,116,101]:List UInt8)==([110,97,116]:List UInt8))=false from by decide ,show (([114,111,117,116,101]:List UInt8)==([100,111,111,114]:List UInt8))=false from by decide,Qc,Qb]
  rw [Sp (by unfold routeP at hf; omega)]
  exact hj.symm
 ·have h0:=hf.1
  have hn:keyN (w.getD 0 default).data.toList=2:=by rw [h0]; decide
  have hl:2<=w.length:=by unfold peerP at hf; omega
  rw [hn,show ((2:Int).toNat)=2 from rfl]
  simp only [h0,show (([112,101,101,114]:List UInt8)==([104,111,115,116]:List UInt8))=false from by decide ,show (([112,101,101,114]:List UInt8)==([117,115,101,114]:List UInt8))=false from by decide ,show (([112,101,101,114]:List UInt8)==([112,111,114,116]:List UInt8))=false from by decide ,show (([112,101,101,114]:List UInt8)==([114,117,108,101]:List UInt8))=false from by decide ,show (([112,101,101,114]:List UInt8)==([114,111,117,116,101]:List UInt8))=false from by decide ,show (([112,101,101,114]:List UInt8)==([112,101,101,114]:List UInt8))=true from by decide ,show (([112,101,101,114]:List UInt8)==([110,97,116]:List UInt8))=false from by decide ,show (([112,101,101,114]:List UInt8)==([100,111,111,114]:List UInt8))=false from by decide,Qc,Qb]
  rw [take_two w uu0,join2]
 ·have h0:=hf.1
  have hn:keyN (w.getD 0 default).data.toList=1:=by rw [h0]; decide
  have hl:2<=w.length:=by unfold natP at hf; omega
  rw [hn,show ((1:Int).toNat)=1 from rfl]
  simp only [h0,show (([110,97,116]:List UInt8)==([104,111,115,116]:List UInt8))=false from by decide ,show (([110,97,116]:List UInt8)==([117,115,101,114]:List UInt8))=false from by decide ,show (([110,97,116]:List UInt8)==([112,111,114,116]:List UInt8))=false from by decide ,show (([110,97,116]:List UInt8)==([114,117,108,101]:List UInt8))=false from by decide ,show (([110,97,116]:List UInt8)==([114,111,117,116,101]:List UInt8))=false from by decide ,show (([110,97,116]:List UInt8)==([112,101,101,114]:List UInt8))=false from by decide ,show (([110,97,116]:List UInt8)==([110,97,116]:List UInt8))=true from by decide ,show (([110,97,116]:List UInt8)==([100,111,111,114]:List UInt8))=false from by decide,Qc,Qb]
  rw [take_one w uu0,join1]
 ·have h0:=hf.1
  have hn:keyN (w.getD 0 default).data.toList=3:=by rw [h0]; decide
  have hl:3<=w.length:=by unfold doorP at hf; omega
  rw [hn,show ((3:Int).toNat)=3 from rfl]
  simp only [h0,show (([100,111,111,114]:List UInt8)==([104,111,115,116]:List UInt8))=false from by decide ,show (([100,111,111,114]:List UInt8)==([117,115,101,114]:List UInt8))=false from by decide ,show (([100,111,111,114]:List UInt8)==([112,111,114,116]:List UInt8))=false from by decide ,show (([100,111,111,114]:List UInt8)==([114,117,108,101]:List UInt8))=false from by decide ,show (([100,111,111,114]:List UInt8)==([114,111,117,116,101]:List UInt8))=false from by decide ,show (([100,111,111,114]:List UInt8)==([112,101,101,114]:List UInt8))=false from by decide ,show (([100,111,111,114]:List UInt8)==([110,97,116]:List UInt8))=false from by decide ,show (([100,111,111,114]:List UInt8)==([100,111,111,114]:List UInt8))=true from by decide,Qc,Qb]
  rw [take_three w uu0,join3]
theorem key_same (line:Za):F13 line=F14 line:=by
 cases h:F47 line with
 | false =>
  unfold F13 F14
  rw [keptSo_eq,h]; rfl
 | true =>
  rw [key_eq line h]
  obtain ⟨k1,k2⟩:=kept_form line h
  unfold F13
  rw [keptSo_eq,h,k1,k2]; rfl
theorem fold_loop {α σ ρ τ ω:Type} [Inhabited α] (xs:List α) (upd:σ->α->σ) (emb:σ->Int->ω) (step:ω->Lp ω ρ)
  (h1:∀ (i:Nat) (s:σ),i<xs.length->step (emb s (i:Int))=.next (emb (upd s (xs.getD i default)) ((i+1:Nat):Int))) (h2:∀ s:σ,step (emb s (xs.length:Int))=.done (emb s (xs.length:Int)))
  (f:ρ->τ) (g:ω->τ):∀ (m i:Nat) (s:σ),i+m=xs.length->∀ fuel,m<fuel->(runL step fuel (emb s (i:Int))).fin f g=g (emb ((xs.drop i).foldl upd s) (xs.length:Int))
 | m,i,_,_,0,hf=>absurd hf (R5 _)
 | 0,i,s,h,fuel+1,hf=>by
  obtain rfl:i=xs.length:=by omega
  rw [runL_d _ (h2 s),Q3 (Qn _)]; rfl
 | m+1,i,s,h,fuel+1,hf=>by
  have hd:xs.drop i=xs.getD i default :: xs.drop (i+1):=by
   rw [Rd (show i<xs.length by omega),Qe,Qj (show i<xs.length by omega)]; rfl
  rw [runL_n _ (h1 i s uu0),fold_loop xs upd emb step h1 h2 f g m (i+1) _ uu0 fuel uu0,hd,Sy]
theorem fold_loop0 {α σ ρ τ ω:Type} [Inhabited α] (xs:List α) (upd:σ->α->σ) (emb:σ->Int->ω) (step:ω->Lp ω ρ)
  (h1:∀ (i:Nat) (s:σ),i<xs.length->step (emb s (i:Int))=.next (emb (upd s (xs.getD i default)) ((i+1:Nat):Int))) (h2:∀ s:σ,step (emb s (xs.length:Int))=.done (emb s (xs.length:Int)))
  (f:ρ->τ) (g:ω->τ) (s:σ):(runL step (((xs.length:Int)-0).toNat+1) (emb s 0)).fin f g=g (emb (xs.foldl upd s) (xs.length:Int)):=by
 have:=fold_loop xs upd emb step h1 h2 f g xs.length 0 s uu0 (Int.toNat ((xs.length:Int)-0)+1) uu0
 rw [Ro] at this
 exact this
theorem anyF_dropG {α:Type} [Inhabited α] (ws:List α) (p:α->Bool):∀ (m i:Nat),i+m=ws.length->anyF (fun k=>p (ws.getD k default)) i m=(ws.drop i).any p
 | 0,i,h=>by rw [Q3 uu0]; rfl
 | m+1,i,h=>by
  have hd:ws.drop i=ws.getD i default :: ws.drop (i+1):=by
   rw [Rd (show i<ws.length by omega),Qe,Qj (show i<ws.length by omega)]; rfl
  rw [hd,Ga,anyF,anyF_dropG ws p m (i+1) uu0]
theorem anyL {α ρ τ:Type} [Inhabited α] (xs:List α) (p:α->Bool) (bad:ρ) (step:Int->Lp Int ρ)
  (h1:∀ i:Nat,i<xs.length->step (i:Int)=bif p (xs.getD i default) then .ret bad else .next ((i+1:Nat):Int)) (h2:step (xs.length:Int)=.done (xs.length:Int))
  (f:ρ->τ) (g:Int->τ) (y:τ) (hg:∀ i,g i=y):(runL step (((xs.length:Int)-0).toNat+1) 0).fin f g=bif xs.any p then f bad else y:=by
 have h:=any_loop step xs.length (fun k=>p (xs.getD k default)) bad f y h1 h2 xs.length 0 uu0 (Int.toNat ((xs.length:Int)-0)+1) uu0
 rw [anyF_dropG xs p xs.length 0 uu0,Ro] at h
 rw [show g=fun _=>y from funext hg]
 exact h
theorem foldl_filter {α β:Type} (p:α->Bool) (f:α->β):∀ (xs:List α) (s:List β),xs.foldl (fun s x=>bif p x then s++[f x] else s) s=s++(xs.filter p).map f
 | [],s=>by simp
 | x :: xs,s=>by
  rw [Sy,foldl_filter p f xs]
  cases h:p x with
  | true=>rw [Qc,R6 h,Rc,Q1]; rfl
  | false=>rw [Qb,Ru uu23]
theorem foldl_map' {α β:Type} (f:α->β):∀ (xs:List α) (s:List β),xs.foldl (fun s x=>s++[f x]) s=s++xs.map f
 | [],s=>by simp
 | x :: xs,s=>by
  rw [Sy,foldl_map' f xs,Rc,Q1]; rfl
theorem foldl_count {α:Type} (p:α->Bool):∀ (xs:List α) (n:Int),xs.foldl (fun n x=>bif p x then n+1 else n) n=n+(xs.filter p).length
 | [],n=>by simp
 | x :: xs,n=>by
  rw [Sy,foldl_count p xs]
  cases h:p x with
  | true=>rw [Qc,R6 h,Qx]; omega
  | false=>rw [Qb,Ru uu23]
theorem kc14 (line:Za) {K_:Prop} (p0_:line.size<=1048576) (k_:K_):(line.size<=1048576)/\(Imp (.v (.string line)) (.v (.string line)))/\K_:=⟨p0_,Imp.refl _,k_⟩
abbrev kh14 (line:Za):Hint true Tryz.prog:=.call 14 (S14 line) (ok14 line) none
def F116_s0 (lines:List Za):(List Za×Int)->Lp (List Za×Int) (List Za):=fun (out,i40) =>
 bif (decide (i40<(lines.length:Int))) then (.next ((out++[(F14 (lines.getD i40.toNat default))]),(i40+1))) else (.done (out,i40))
def F116 (lines:List Za):List Za :=
 (runL (F116_s0 lines) (((lines.length:Int)-0).toNat+1) (([]:List Za),0)).fin (fun r=>r) (fun (out,i40)=>out)
abbrev lN116_0 (lines:List Za):Nat×(List Za×Int):=((((lines.length:Int)-0).toNat+1),(([]:List Za),0))
abbrev lI116_0 (lines:List Za) (m39:Nat) (out:List Za) (i40:Int):Prop:=Int.toNat ((lines.length:Int)-i40)<m39/\(out.length:Int)<=i40/\(0:Int)<=i40
abbrev lX116_0 (lines:List Za):Lp (List Za×Int) (List Za):=LpX (F116_s0 lines) (lN116_0 lines)
abbrev lJ116_0 (lines:List Za) (i:Nat×(List Za×Int)):Prop:=LpJ (F116_s0 lines) (lN116_0 lines) i (lI116_0 lines i.1 i.2.1 i.2.2)
abbrev lH116_0 (lines:List Za) (i:Nat×(List Za×Int)) (m39:Nat) (out:List Za) (i40:Int):Prop:=LpH (F116_s0 lines) (lN116_0 lines) i m39 (out,i40) (lI116_0 lines (m39+1) out i40)
abbrev lE116_0 (lines:List Za) (out:List Za) (i40:Int) (out_:List Za) (i40_:Int) (K39:Prop):Prop:=((.int .i64 i40:Value)=.int .i64 i40_)/\(Im (.l 1 eStr lines))/\(Imp (.l 1 eStr out) (.l 1 eStr out_))/\K39
theorem un116_0 (lines:List Za) (i:Nat×(List Za×Int)) (h:lJ116_0 lines i):lH116_0 lines i (i.1-1) i.2.1 i.2.2:=⟨hd1 h.1 h.2.1,hd3 h.2.1,hd2 h.2.1,h.2.2⟩
theorem bk116_0 (lines:List Za) (i:Nat×(List Za×Int)) (m39:Nat) (out:List Za) (i40:Int) (hl:m39<i.1) (e:runL (F116_s0 lines) m39 (out,i40)=lX116_0 lines) (h:lI116_0 lines m39 out i40):∃ j:Nat×(List Za×Int),lE116_0 lines out i40 j.2.1 j.2.2 (lJ116_0 lines j/\j.1<i.1):=⟨(m39,(out,i40)),rfl,Imp.refl _,Imp.refl _,⟨e,h⟩,hl⟩
theorem en116_0 (lines:List Za) (h:(([]:List Za).length:Int)<=0/\(0:Int)<=0):lE116_0 lines ([]:List Za) 0 ([]:List Za) 0 (lJ116_0 lines (lN116_0 lines)):=⟨rfl,Imp.refl _,Imp.refl _,rfl,Qr _,h⟩
theorem fi116 (lines:List Za) (r:List Za) (hF:r=(F116 lines)):(Imp (.l 1 eStr r) (.l 1 eStr (F116 lines)))/\True:=by cases hF; exact ⟨Imp.refl _,trivial⟩
def S116 (R:List Za) (lines:List Za):Spec:=⟨[.r (.c (.l 1 eStr lines))],.ow (.l 1 eStr R),lines.length<=1048576/\(∀ k:Nat,(lines.getD k default).size<=1048576)⟩
theorem ok116 (lines:List Za):(S116 (F116 lines) lines).ok Tryz.prog 116 :=
 fnG_ok mixed (fn:=Tryz.f116) (ct:=.seqk [(0,0)] .no (.seq (.reg [(0,.dat (.l 1 eStr ([]:List Za)))]) (.seq (.seqk [(0,0),(3,0)] .no (.blk (.loop (ι:=Nat×(List Za×Int)) (fun i=>(fun (out:List Za) (i40:Int)=>(⟨[(0,some (.h 0 0)),(3,some (.h 1 0)),(4,some (.v (vI i40)))],[(0,some (.shr none (.l 1 eStr lines))),(1,some (.own 1 (.l 1 eStr out)))],2⟩:St)) i.2.1 i.2.2) (lJ116_0 lines) (fun i=>i.1) (lN116_0 lines) (fun i=>(fun (out:List Za) (i40:Int)=>(.seq (.seq .no (.cond .no .no)) (.seq (.blk (.reg [(5,kh14 (lines.getD i40.toNat default)),(7,.dat (.l 1 eStr (out++[(F14 (lines.getD i40.toNat default))])))])) (.reg [(1,.bnd)])))) i.2.1 i.2.2)))) (.seq .no .no)))) Tryz.func116 (fun (hp:lines.length<=1048576/\(∀ k:Nat,(lines.getD k default).size<=1048576))=>have hpre0:=hp.1; have hpre1:=hp.2; kn lines fun _=>ai (bokr 1 eStr ([]:List Za) fun _=>rfl) (kn lines fun _=>kn ([]:List Za) fun _=>ai (en116_0 lines uu20) (fun (i0:Nat×(List Za×Int)) (hi0:lJ116_0 lines i0)=>(fun (m0:Nat) (out:List Za) (i40:Int) (hh0:lH116_0 lines i0 m0 out i40)=>have hI0:=hh0.1; have hl0:=hh0.2.1; have _:=hh0.2.2.1; have _:=hh0.2.2.2; ifd (i40<(lines.length:Int)) (fun h2 _=>ai (uu2:ib i40 lines) (kc14 (lines.getD i40.toNat default) (by first | omega | exact hpre1 _ | (intros; exact trivial) | (intros; exact Re _)) (ai (appr 1 eStr out [(F14 (lines.getD i40.toNat default))] fun _=>rfl) (ai (uu17:(out++[(F14 (lines.getD i40.toNat default))]).length*16<=140737488355328) (ai (iok (i40+1) uu2) (bk116_0 lines i0 m0 (out++[(F14 (lines.getD i40.toNat default))]) (i40+1) hl0 (runL_next hI0 (condT h2 rfl)) uu25)))))) (fun h2 _=>have hD0_3:lX116_0 lines=Lp.done (out,i40):=runL_done hI0 (condF h2 rfl); fi116 lines out (finD hD0_3 rfl))) (i0.1-1) i0.2.1 i0.2.2 (un116_0 lines i0 hi0)))) uu3
def F103_s0 (lines:List Za) (word:Za):(List (List Za)×Int)->Lp (List (List Za)×Int) (List (List Za)):=fun (out,v12) =>
 bif (decide (v12<(lines.length:Int))) then (bif (((F41 (lines.getD v12.toNat default) Zd).getD (Int.toNat 0) default).toList==word.toList) then (.next ((out++[(F41 (lines.getD v12.toNat default) Zd)]),(v12+1))) else (.next (out,(v12+1)))) else (.done (out,v12))
def F103 (lines:List Za) (word:Za):List (List Za) :=
 (runL (F103_s0 lines word) (((lines.length:Int)-0).toNat+1) (([]:List (List Za)),0)).fin (fun r=>r) (fun (out,v12)=>out)
abbrev lN103_0 (lines:List Za):Nat×(List (List Za)×Int):=((((lines.length:Int)-0).toNat+1),(([]:List (List Za)),0))
abbrev lI103_0 (lines:List Za) (m39:Nat) (out:List (List Za)) (v12:Int):Prop:=Int.toNat ((lines.length:Int)-v12)<m39/\(out.length:Int)<=v12/\(0:Int)<=v12
abbrev lX103_0 (lines:List Za) (word:Za):Lp (List (List Za)×Int) (List (List Za)):=LpX (F103_s0 lines word) (lN103_0 lines)
abbrev lJ103_0 (lines:List Za) (word:Za) (i:Nat×(List (List Za)×Int)):Prop:=LpJ (F103_s0 lines word) (lN103_0 lines) i (lI103_0 lines i.1 i.2.1 i.2.2)
abbrev lH103_0 (lines:List Za) (word:Za) (i:Nat×(List (List Za)×Int)) (m39:Nat) (out:List (List Za)) (v12:Int):Prop:=LpH (F103_s0 lines word) (lN103_0 lines) i m39 (out,v12) (lI103_0 lines (m39+1) out v12)
abbrev lE103_0 (lines:List Za) (word:Za) (out:List (List Za)) (v12:Int) (out_:List (List Za)) (v12_:Int) (K39:Prop):Prop:=(Rf (.string word))/\(Rf (.int .i64 (lines.length:Int)))/\((.int .i64 v12:Value)=.int .i64 v12_)/\(Imp (.l 1 (eL 1 eStr) out) (.l 1 (eL 1 eStr) out_))/\(Im (.l 1 eStr lines))/\K39
theorem un103_0 (lines:List Za) (word:Za) (i:Nat×(List (List Za)×Int)) (h:lJ103_0 lines word i):lH103_0 lines word i (i.1-1) i.2.1 i.2.2:=⟨hd1 h.1 h.2.1,hd3 h.2.1,hd2 h.2.1,h.2.2⟩
theorem bk103_0 (lines:List Za) (word:Za) (i:Nat×(List (List Za)×Int)) (m39:Nat) (out:List (List Za)) (v12:Int) (hl:m39<i.1) (e:runL (F103_s0 lines word) m39 (out,v12)=lX103_0 lines word) (h:lI103_0 lines m39 out v12):∃ j:Nat×(List (List Za)×Int),lE103_0 lines word out v12 j.2.1 j.2.2 (lJ103_0 lines word j/\j.1<i.1):=⟨(m39,(out,v12)),rfl,rfl,rfl,Imp.refl _,Imp.refl _,⟨e,h⟩,hl⟩
theorem en103_0 (lines:List Za) (word:Za) (h:(([]:List (List Za)).length:Int)<=0/\(0:Int)<=0):lE103_0 lines word ([]:List (List Za)) 0 ([]:List (List Za)) 0 (lJ103_0 lines word (lN103_0 lines)):=⟨rfl,rfl,rfl,Imp.refl _,Imp.refl _,rfl,Qr _,h⟩
theorem fi103 (lines:List Za) (word:Za) (r:List (List Za)) (hF:r=(F103 lines word)):(Imp (.l 1 (eL 1 eStr) r) (.l 1 (eL 1 eStr) (F103 lines word)))/\True:=by cases hF; exact ⟨Imp.refl _,trivial⟩
def S103 (R:List (List Za)) (lines:List Za) (word:Za):Spec:=⟨[.r (.c (.l 1 eStr lines)),.r (.c (.v (.string word)))],.ow (.l 1 (eL 1 eStr) R),lines.length<=1048576/\(∀ k:Nat,(lines.getD k default).size<=1048576)⟩
theorem ok103 (lines:List Za) (word:Za):(S103 (F103 lines word) lines word).ok Tryz.prog 103 :=
 fnG_ok mixed (fn:=Tryz.f103) (ct:=.seqk [(0,0)] .no (.seq (.reg [(0,.dat (.l 1 (eL 1 eStr) ([]:List (List Za))))]) (.seq (.seqk [(5,0),(10,0)] .no (.blk (.loop (ι:=Nat×(List (List Za)×Int)) (fun i=>(fun (out:List (List Za)) (v12:Int)=>(⟨[(1,some (.v (.string word))),(5,some (.h 0 0)),(10,some (.h 1 0)),(11,some (.v (vI (lines.length:Int)))),(12,some (.v (vI v12)))],[(0,some (.own 0 (.l 1 (eL 1 eStr) out))),(1,some (.shr none (.l 1 eStr lines)))],2⟩:St)) i.2.1 i.2.2) (lJ103_0 lines word) (fun i=>i.1) (lN103_0 lines) (fun i=>(fun (out:List (List Za)) (v12:Int)=>(.seq .no (.seq (.cond .no .no) (.seq (.blk (.seq .no (.seq (.reg [(1,kh41 (lines.getD v12.toNat default) Zd)]) (.seq .no (.cond (.reg [(3,.dat (.l 1 (eL 1 eStr) (out++[(F41 (lines.getD v12.toNat default) Zd)])))]) .no))))) (.reg [(0,.bnd)]))))) i.2.1 i.2.2)))) (.seq .no .no)))) Tryz.func103 (fun (hp:lines.length<=1048576/\(∀ k:Nat,(lines.getD k default).size<=1048576))=>have hpre0:=hp.1; have hpre1:=hp.2; kn lines fun _=>ai (bokr 1 (eL 1 eStr) ([]:List (List Za)) fun _=>rfl) (kn ([]:List (List Za)) fun _=>kn lines fun _=>ai (en103_0 lines word uu20) (fun (i0:Nat×(List (List Za)×Int)) (hi0:lJ103_0 lines word i0)=>(fun (m0:Nat) (out:List (List Za)) (v12:Int) (hh0:lH103_0 lines word i0 m0 out v12)=>have hI0:=hh0.1; have hl0:=hh0.2.1; have _:=hh0.2.2.1; have _:=hh0.2.2.2; ifd (v12<(lines.length:Int)) (fun h2 _=>ai (uu2:ib v12 lines) (kc41 (lines.getD v12.toNat default) Zd uu44 uu44 uu44 uu44 (fun gv3 gv4=>ai (uu2:ib 0 (F41 (lines.getD v12.toNat default) Zd)) (ifb (((F41 (lines.getD v12.toNat default) Zd).getD (Int.toNat 0) default).toList==word.toList) (fun h5=>ai (appr 1 (eL 1 eStr) out [(F41 (lines.getD v12.toNat default) Zd)] fun _=>rfl) (ai (uu17:(out++[(F41 (lines.getD v12.toNat default) Zd)]).length*24<=140737488355328) (ai (iok (v12+1) uu2) (bk103_0 lines word i0 m0 (out++[(F41 (lines.getD v12.toNat default) Zd)]) (v12+1) hl0 (runL_next hI0 (condT h2 (condT h5 rfl))) uu25)))) (fun h5=>ai (iok (v12+1) uu2) (bk103_0 lines word i0 m0 out (v12+1) hl0 (runL_next hI0 (condT h2 (condF h5 rfl))) uu25)))))) (fun h2 _=>have hD0_6:lX103_0 lines word=Lp.done (out,v12):=runL_done hI0 (condF h2 rfl); fi103 lines word out (finD hD0_6 rfl))) (i0.1-1) i0.2.1 i0.2.2 (un103_0 lines word i0 hi0)))) uu3
theorem as116 (lines:List Za):F116 lines=(lines.map F14):=by
 unfold F116
 have:=fold_loop0 lines (fun (s:List Za) x=>s++[F14 x]) (fun s i=>(s,i)) (F116_s0 lines) (fun i s hi=>by
  simp only [F116_s0,ltD hi,Qc,nn]; rfl) (fun s=>by simp only [F116_s0,geD,Qb]) (fun r=>r) (fun (out,i40)=>out) []
 refine this.trans ?_
 rw [foldl_map',R0]
def linesL (lines:List Za) (word:Za):List (List Za):=(lines.map fun l=>splitS l Zd).filter fun w=>(w.getD 0 default).data.toList==word.data.toList
theorem as103 (lines:List Za) (word:Za):F103 lines word=(linesL lines word):=by
 unfold F103
 have:=fold_loop0 lines (fun (s:List (List Za)) x=>bif ((splitS x Zd).getD 0 default).data.toList==word.data.toList then s++[splitS x Zd] else s) (fun s i=>(s,i)) (F103_s0 lines word) (fun i s hi=>by
  simp only [F103_s0,ltD hi,Qc,nn,byteToList,F41]
  show (bif ((splitS (lines.getD i default) Zd).getD 0 default).data.toList==word.data.toList then _ else _)=_
  cases (((splitS (lines.getD i default) Zd).getD 0 default).data.toList==word.data.toList) <;> rfl) (fun s=>by simp only [F103_s0,geD,Qb]) (fun r=>r) (fun (out,v12)=>out) []
 refine this.trans ?_
 have h:=foldl_filter (fun x=>((splitS x Zd).getD 0 default).data.toList==word.data.toList) (fun x=>splitS x Zd) lines []
 rw [R0] at h
 refine h.trans ?_
 unfold linesL
 rw [Hk]
 rfl
def T116 (R:List Za) (lines:List Za):Spec:=⟨(S116 R lines).args,(S116 R lines).res,lines.length<=1048576/\(∀ k:Nat,(lines.getD k default).size<=1048576)⟩
theorem oa116 (lines:List Za):(T116 (lines.map F14) lines).ok Tryz.prog 116:=by
 intro hp; have h:=ok116 lines hp; rw [as116 lines] at h; exact h
def T103 (R:List (List Za)) (lines:List Za) (word:Za):Spec:=⟨(S103 R lines word).args,(S103 R lines word).res,lines.length<=1048576/\(∀ k:Nat,(lines.getD k default).size<=1048576)⟩
theorem oa103 (lines:List Za) (word:Za):(T103 (linesL lines word) lines word).ok Tryz.prog 103:=by
 intro hp; have h:=ok103 lines word hp; rw [as103 lines word] at h; exact h
def F101 (l:Za):Bool :=
 (!(F46 l))
def S101 (l:Za):Spec:=⟨[.r (.c (.v (.string l)))],.v (.bool (F101 l)),l.size<=1048576⟩
theorem ok101 (l:Za):(S101 l).ok Tryz.prog 101 false :=
 fnG_ok mixed (fn:=Tryz.f101) (ct:=.seq .no (.seq (.reg [(1,kh46 l)]) .no)) Tryz.func101 (fun (hpre0:l.size<=1048576)=>kc46 l uu0 (fiB (!(F46 l)) (F101 l) rfl)) uu3
theorem kc13 (line:Za) {K_:Prop} (p0_:line.size<=1048576) (k_:K_):(line.size<=1048576)/\(Imp (.v (.string line)) (.v (.string line)))/\K_:=⟨p0_,Imp.refl _,k_⟩
abbrev kh13 (line:Za):Hint false Tryz.prog:=.call 13 (S13 line) (ok13 line) none
def F52_s1 (lines:List Za):(Int×ML Bool)->Lp (Int×ML Bool) Int:=fun (v31,ms) =>
 bif (decide (v31<(lines.length:Int))) then (.next ((v31+1),(putM ms (F13 (lines.getD v31.toNat default)) true))) else (.done (v31,ms))
def F52_j0 (lines:List Za):Lp (ML Bool) Int :=
 (runL (F52_s1 lines) (((lines.length:Int)-0).toNat+1) (0,([]:ML Bool))).fin Lp.ret (fun (v31,ms)=>.done ms)
def F52_s0 (lines:List Za):Int->Lp Int Int:=fun i40 =>
 bif (decide (i40<(lines.length:Int))) then (bif (!(Op.bytesLess (lines.getD (i40-1).toNat default).toList (lines.getD i40.toNat default).toList)) then (.ret 3) else (.next (i40+1))) else (.done i40)
def F52 (lines:List Za):Int :=
 bif (decide ((lines.length:Int)>16)) then 1 else (bif (lines.any (fun (x0:Za)=>F101 x0)) then 2 else ((runL (F52_s0 lines) (((lines.length:Int)-1).toNat+1) 1).fin (fun r=>r) (fun i40=>(F52_j0 lines).fin (fun r=>r) (fun keys=>bif (decide ((keys.length:Int)<(lines.length:Int))) then 4 else 0))))
abbrev lN52_1 (lines:List Za):Nat×(Int×ML Bool):=((((lines.length:Int)-0).toNat+1),(0,([]:ML Bool)))
abbrev lI52_1 (lines:List Za) (m39:Nat) (v31:Int) (ms:ML Bool):Prop:=Int.toNat ((lines.length:Int)-v31)<m39/\(0:Int)<=v31
abbrev lX52_1 (lines:List Za):Lp (Int×ML Bool) Int:=LpX (F52_s1 lines) (lN52_1 lines)
abbrev lJ52_1 (lines:List Za) (i:Nat×(Int×ML Bool)):Prop:=LpJ (F52_s1 lines) (lN52_1 lines) i (lI52_1 lines i.1 i.2.1 i.2.2)
abbrev lH52_1 (lines:List Za) (i:Nat×(Int×ML Bool)) (m39:Nat) (v31:Int) (ms:ML Bool):Prop:=LpH (F52_s1 lines) (lN52_1 lines) i m39 (v31,ms) (lI52_1 lines (m39+1) v31 ms)
abbrev lE52_1 (lines:List Za) (v31:Int) (ms:ML Bool) (v31_:Int) (ms_:ML Bool) (K39:Prop):Prop:=(Rf (.int .i64 (lines.length:Int)))/\((.int .i64 v31:Value)=.int .i64 v31_)/\(Im (.l 1 eStr lines))/\(Imp (.x (MX Value.bool ms)) (.x (MX Value.bool ms_)))/\K39
theorem un52_1 (lines:List Za) (i:Nat×(Int×ML Bool)) (h:lJ52_1 lines i):lH52_1 lines i (i.1-1) i.2.1 i.2.2:=⟨hd1 h.1 h.2.1,hd3 h.2.1,hd2 h.2.1,h.2.2⟩
theorem bk52_1 (lines:List Za) (i:Nat×(Int×ML Bool)) (m39:Nat) (v31:Int) (ms:ML Bool) (hl:m39<i.1) (e:runL (F52_s1 lines) m39 (v31,ms)=lX52_1 lines) (h:lI52_1 lines m39 v31 ms):∃ j:Nat×(Int×ML Bool),lE52_1 lines v31 ms j.2.1 j.2.2 (lJ52_1 lines j/\j.1<i.1):=⟨(m39,(v31,ms)),rfl,rfl,Imp.refl _,Imp.refl _,⟨e,h⟩,hl⟩
theorem en52_1 (lines:List Za) (h:(0:Int)<=0):lE52_1 lines 0 ([]:ML Bool) 0 ([]:ML Bool) (lJ52_1 lines (lN52_1 lines)):=⟨rfl,rfl,Imp.refl _,Imp.refl _,rfl,Qr _,h⟩
abbrev jJ52_0 (lines:List Za) (j:ML Bool):Prop:=(F52_j0 lines)=Lp.done j
theorem jn52_0 (lines:List Za) (keys:ML Bool) (e:(F52_j0 lines)=Lp.done keys):∃ j:ML Bool,(Imp (.l 1 eStr lines) (.l 1 eStr lines))/\(Imp (.x (MX Value.bool keys)) (.x (MX Value.bool j)))/\jJ52_0 lines j:=⟨keys,Imp.refl _,Imp.refl _,e⟩
abbrev lN52_0 (lines:List Za):Nat×Int:=((((lines.length:Int)-1).toNat+1),1)
abbrev lI52_0 (lines:List Za) (m39:Nat) (i40:Int):Prop:=Int.toNat ((lines.length:Int)-i40)<m39/\(1:Int)<=i40/\(0:Int)<=i40
abbrev lX52_0 (lines:List Za):Lp Int Int:=LpX (F52_s0 lines) (lN52_0 lines)
abbrev lJ52_0 (lines:List Za) (i:Nat×Int):Prop:=LpJ (F52_s0 lines) (lN52_0 lines) i (lI52_0 lines i.1 i.2)
abbrev lH52_0 (lines:List Za) (i:Nat×Int) (m39:Nat) (i40:Int):Prop:=LpH (F52_s0 lines) (lN52_0 lines) i m39 i40 (lI52_0 lines (m39+1) i40)
abbrev lE52_0 (lines:List Za) (i40:Int) (i40_:Int) (K39:Prop):Prop:=((.int .i64 i40:Value)=.int .i64 i40_)/\(Im (.l 1 eStr lines))/\K39
theorem un52_0 (lines:List Za) (i:Nat×Int) (h:lJ52_0 lines i):lH52_0 lines i (i.1-1) i.2:=⟨hd1 h.1 h.2.1,hd3 h.2.1,hd2 h.2.1,h.2.2⟩
theorem bk52_0 (lines:List Za) (i:Nat×Int) (m39:Nat) (i40:Int) (hl:m39<i.1) (e:runL (F52_s0 lines) m39 i40=lX52_0 lines) (h:lI52_0 lines m39 i40):∃ j:Nat×Int,lE52_0 lines i40 j.2 (lJ52_0 lines j/\j.1<i.1):=⟨(m39,i40),rfl,Imp.refl _,⟨e,h⟩,hl⟩
theorem en52_0 (lines:List Za) (h:(1:Int)<=1/\(0:Int)<=1):lE52_0 lines 1 1 (lJ52_0 lines (lN52_0 lines)):=⟨rfl,Imp.refl _,rfl,Qr _,h⟩
def S52 (lines:List Za):Spec:=⟨[.r (.c (.l 1 eStr lines))],.v (vI (F52 lines)),(∀ k:Nat,(lines.getD k default).size<=1048576)⟩
theorem ok52 (lines:List Za):(S52 lines).ok Tryz.prog 52 false :=
 fnG_ok mixed (fn:=Tryz.f52) (ct:=.seqk [(0,0)] .no (.seq (.seq .no (.cond (.seq .no .no) .no)) (.seq (.seq (.reg [(1,.call 43 (S43 (lines.any (fun (x0:Za)=>F101 x0)) lines (fun (x0:Za)=>F101 x0) (fun (x0:Za)=>x0.size<=1048576)) (oa43 lines (fun (x0:Za)=>F101 x0) (fun (x0:Za)=>x0.size<=1048576)) (some ⟨false,101,fsQ64 (fun (x0:Za)=>x0.size<=1048576) (fun (x0:Za)=>F101 x0),[],rfl,True,fun i=>ok_px (ok101 i)⟩))]) (.cond (.seq .no .no) .no)) (.seq (.seqk [(0,0)] .no (.blk (.loop (ι:=Nat×Int) (fun i=>(fun (i40:Int)=>(⟨[(0,some (.h 0 0)),(3,some (.v (vI i40)))],[(0,some (.shr none (.l 1 eStr lines)))],1⟩:St)) i.2) (lJ52_0 lines) (fun i=>i.1) (lN52_0 lines) (fun i=>(fun (i40:Int)=>(.seq (.seq .no (.cond .no .no)) (.seq (.blk (.seq (.reg [(2,.bnd)]) (.cond (.seq .no .no) .no))) (.reg [(1,.bnd)])))) i.2)))) (.seq (.reg [(0,.mpm Value.bool)]) (.cut (ι:=ML Bool) (fun j=>(fun (keys:ML Bool)=>(⟨[(0,some (.h 0 0)),(4,some (.h 1 0))],[(0,some (.shr none (.l 1 eStr lines))),(1,some (.own 1 (.x (MX Value.bool keys))))],2⟩:St)) j) (jJ52_0 lines) (.seqk [(29,0)] .no (.blk (.loop (ι:=Nat×(Int×ML Bool)) (fun i=>(fun (v31:Int) (ms:ML Bool)=>(⟨[(0,some (.h 0 0)),(4,some (.h 1 0)),(29,some (.h 0 0)),(30,some (.v (vI (lines.length:Int)))),(31,some (.v (vI v31)))],[(0,some (.shr none (.l 1 eStr lines))),(1,some (.own 1 (.x (MX Value.bool ms))))],2⟩:St)) i.2.1 i.2.2) (lJ52_1 lines) (fun i=>i.1) (lN52_1 lines) (fun i=>(fun (v31:Int) (ms:ML Bool)=>(.seq .no (.seq (.cond .no .no) (.seq (.blk (.seq .no (.reg [(2,kh13 (lines.getD v31.toNat default)),(3,.mpu Value.bool ms true)]))) (.reg [(0,.bnd)]))))) i.2.1 i.2.2)))) (fun j=>(fun (keys:ML Bool)=>(.seq (.seq (.reg [(1,.mpn Value.bool keys)]) (.cond (.seq .no .no) .no)) (.seq .no .no))) j))))))) Tryz.func52 (fun (hpre0:∀ k:Nat,(lines.getD k default).size<=1048576)=>kn lines fun _=>ifd ((lines.length:Int)>16) (fun h1 _=>fiI 1 (F52 lines) (condT h1 rfl)) (fun h1 _=>ai (uu69:∀ k:Nat,k<lines.length->(fun (x0:Za)=>x0.size<=1048576) (lines.getD k default)) (ai (Imp.refl (.l 1 eStr lines)) (ai (Eq.refl (fsQ64 (fun (x0:Za)=>x0.size<=1048576) (fun (x0:Za)=>F101 x0))) (ai trivial (ifb (lines.any (fun (x0:Za)=>F101 x0)) (fun h2=>fiI 2 (F52 lines) (condF h1 (condT h2 rfl))) (fun h2=>kn lines fun _=>ai (en52_0 lines uu6) (fun (i0:Nat×Int) (hi0:lJ52_0 lines i0)=>(fun (m0:Nat) (i40:Int) (hh0:lH52_0 lines i0 m0 i40)=>have hI0:=hh0.1; have hl0:=hh0.2.1; have _:=hh0.2.2.1; have _:=hh0.2.2.2; ifd (i40<(lines.length:Int)) (fun h4 _=>ai (iok (i40-1) uu0) (ai (uu0:ib (i40-1) lines) (ai (uu0:ib i40 lines) (ifb (!(Op.bytesLess (lines.getD (i40-1).toNat default).toList (lines.getD i40.toNat default).toList)) (fun h5=>fiI 3 (F52 lines) (condF h1 (condF h2 (finR (runL_ret hI0 (condT h4 (condT h5 rfl))) rfl)))) (fun h5=>ai (iok (i40+1) uu0) (bk52_0 lines i0 m0 (i40+1) hl0 (runL_next hI0 (condT h4 (condF h5 rfl))) uu34)))))) (fun h4 _=>have hD0_6:lX52_0 lines=Lp.done i40:=runL_done hI0 (condF h4 rfl); ai (kn lines fun _=>ai (en52_1 lines uu0) (fun (i1:Nat×(Int×ML Bool)) (hi1:lJ52_1 lines i1)=>(fun (m1:Nat) (v31:Int) (ms:ML Bool) (hh1:lH52_1 lines i1 m1 v31 ms)=>have hI1:=hh1.1; have hl1:=hh1.2.1; have _:=hh1.2.2.1; have _:=hh1.2.2.2; ifd (v31<(lines.length:Int)) (fun h8 _=>ai (uu0:ib v31 lines) (kc13 (lines.getD v31.toNat default) uu70 (ai (Eq.refl (MX Value.bool ms)) (ai (Eq.refl (Value.bool true)) (ai (iok (v31+1) uu0) (bk52_1 lines i1 m1 (v31+1) (putM ms (F13 (lines.getD v31.toNat default)) true) hl1 (runL_next hI1 (condT h8 rfl)) uu6)))))) (fun h8 _=>have hD1_9:lX52_1 lines=Lp.done (v31,ms):=runL_done hI1 (condF h8 rfl); jn52_0 lines ms (S5 (finD hD1_9 rfl)) )) (i1.1-1) i1.2.1 i1.2.2 (un52_1 lines i1 hi1))) (fun (j:ML Bool) (hj:jJ52_0 lines j)=>(fun (keys:ML Bool) (hJ0_10:(F52_j0 lines)=Lp.done keys)=>ai (Eq.refl (MX Value.bool keys)) (ifd ((keys.length:Int)<(lines.length:Int)) (fun h11 _=>fiI 4 (F52 lines) (condF h1 (condF h2 (finD hD0_6 (finD hJ0_10 (condT h11 rfl)))))) (fun h11 _=>fiI 0 (F52 lines) (condF h1 (condF h2 (finD hD0_6 (finD hJ0_10 (condF h11 rfl)))))))) j hj))) (i0.1-1) i0.2 (un52_0 lines i0 hi0))))))))) uu3
theorem kc116a (lines:List Za) {K_:Prop} (p0_:lines.length<=1048576) (p1_:∀ k:Nat,(lines.getD k default).size<=1048576) (k_:K_):(lines.length<=1048576/\(∀ k:Nat,(lines.getD k default).size<=1048576))/\(Imp (.l 1 eStr lines) (.l 1 eStr lines))/\K_:=⟨⟨p0_,p1_⟩,Imp.refl _,k_⟩
abbrev kh116a (lines:List Za):Hint true Tryz.prog:=.call 116 (T116 (lines.map F14) lines) (oa116 lines) none
def F58_s2 (lines:List Za):Int->Lp Int Int:=fun i42 =>
 bif (decide (i42<(lines.length:Int))) then (bif (F84 ((lines.map F14).take i42.toNat) ((lines.map F14).getD i42.toNat default)) then (.ret 4) else (.next (i42+1))) else (.done i42)
def F58_s1 (lines:List Za):Int->Lp Int Int:=fun i41 =>
 bif (decide (i41<(lines.length:Int))) then (bif (!(Op.bytesLess (lines.getD (i41-1).toNat default).toList (lines.getD i41.toNat default).toList)) then (.ret 3) else (.next (i41+1))) else (.done i41)
def F58_s0 (lines:List Za):Int->Lp Int Int:=fun i40 =>
 bif (decide (i40<(lines.length:Int))) then (bif (((lines.map F14).getD i40.toNat default).toList==Zf.toList) then (.ret 2) else (.next (i40+1))) else (.done i40)
def F58 (lines:List Za):Int :=
 bif (decide ((lines.length:Int)>16)) then 1 else ((runL (F58_s0 lines) (((lines.length:Int)-0).toNat+1) 0).fin (fun r=>r) (fun i40=>(runL (F58_s1 lines) (((lines.length:Int)-1).toNat+1) 1).fin (fun r=>r) (fun i41=>(runL (F58_s2 lines) (((lines.length:Int)-0).toNat+1) 0).fin (fun r=>r) (fun i42=>0))))
abbrev lN58_2 (lines:List Za):Nat×Int:=((((lines.length:Int)-0).toNat+1),0)
abbrev lI58_2 (lines:List Za) (m39:Nat) (i42:Int):Prop:=Int.toNat ((lines.length:Int)-i42)<m39/\(0:Int)<=i42
abbrev lX58_2 (lines:List Za):Lp Int Int:=LpX (F58_s2 lines) (lN58_2 lines)
abbrev lJ58_2 (lines:List Za) (i:Nat×Int):Prop:=LpJ (F58_s2 lines) (lN58_2 lines) i (lI58_2 lines i.1 i.2)
abbrev lH58_2 (lines:List Za) (i:Nat×Int) (m39:Nat) (i42:Int):Prop:=LpH (F58_s2 lines) (lN58_2 lines) i m39 i42 (lI58_2 lines (m39+1) i42)
abbrev lE58_2 (lines:List Za) (i42:Int) (i42_:Int) (K39:Prop):Prop:=((.int .i64 i42:Value)=.int .i64 i42_)/\(Im (.l 1 eStr lines))/\(Im (.l 1 eStr (lines.map F14)))/\K39
theorem un58_2 (lines:List Za) (i:Nat×Int) (h:lJ58_2 lines i):lH58_2 lines i (i.1-1) i.2:=⟨hd1 h.1 h.2.1,hd3 h.2.1,hd2 h.2.1,h.2.2⟩
theorem bk58_2 (lines:List Za) (i:Nat×Int) (m39:Nat) (i42:Int) (hl:m39<i.1) (e:runL (F58_s2 lines) m39 i42=lX58_2 lines) (h:lI58_2 lines m39 i42):∃ j:Nat×Int,lE58_2 lines i42 j.2 (lJ58_2 lines j/\j.1<i.1):=⟨(m39,i42),rfl,Imp.refl _,Imp.refl _,⟨e,h⟩,hl⟩
theorem en58_2 (lines:List Za) (h:(0:Int)<=0):lE58_2 lines 0 0 (lJ58_2 lines (lN58_2 lines)):=⟨rfl,Imp.refl _,Imp.refl _,rfl,Qr _,h⟩
abbrev lN58_1 (lines:List Za):Nat×Int:=((((lines.length:Int)-1).toNat+1),1)
abbrev lI58_1 (lines:List Za) (m39:Nat) (i41:Int):Prop:=Int.toNat ((lines.length:Int)-i41)<m39/\(1:Int)<=i41/\(0:Int)<=i41
abbrev lX58_1 (lines:List Za):Lp Int Int:=LpX (F58_s1 lines) (lN58_1 lines)
abbrev lJ58_1 (lines:List Za) (i:Nat×Int):Prop:=LpJ (F58_s1 lines) (lN58_1 lines) i (lI58_1 lines i.1 i.2)
abbrev lH58_1 (lines:List Za) (i:Nat×Int) (m39:Nat) (i41:Int):Prop:=LpH (F58_s1 lines) (lN58_1 lines) i m39 i41 (lI58_1 lines (m39+1) i41)
abbrev lE58_1 (lines:List Za) (i41:Int) (i41_:Int) (K39:Prop):Prop:=((.int .i64 i41:Value)=.int .i64 i41_)/\(Im (.l 1 eStr lines))/\(Im (.l 1 eStr (lines.map F14)))/\K39
theorem un58_1 (lines:List Za) (i:Nat×Int) (h:lJ58_1 lines i):lH58_1 lines i (i.1-1) i.2:=⟨hd1 h.1 h.2.1,hd3 h.2.1,hd2 h.2.1,h.2.2⟩
theorem bk58_1 (lines:List Za) (i:Nat×Int) (m39:Nat) (i41:Int) (hl:m39<i.1) (e:runL (F58_s1 lines) m39 i41=lX58_1 lines) (h:lI58_1 lines m39 i41):∃ j:Nat×Int,lE58_1 lines i41 j.2 (lJ58_1 lines j/\j.1<i.1):=⟨(m39,i41),rfl,Imp.refl _,Imp.refl _,⟨e,h⟩,hl⟩
theorem en58_1 (lines:List Za) (h:(1:Int)<=1/\(0:Int)<=1):lE58_1 lines 1 1 (lJ58_1 lines (lN58_1 lines)):=⟨rfl,Imp.refl _,Imp.refl _,rfl,Qr _,h⟩
abbrev lN58_0 (lines:List Za):Nat×Int:=((((lines.length:Int)-0).toNat+1),0)
abbrev lI58_0 (lines:List Za) (m39:Nat) (i40:Int):Prop:=Int.toNat ((lines.length:Int)-i40)<m39/\(0:Int)<=i40
abbrev lX58_0 (lines:List Za):Lp Int Int:=LpX (F58_s0 lines) (lN58_0 lines)
abbrev lJ58_0 (lines:List Za) (i:Nat×Int):Prop:=LpJ (F58_s0 lines) (lN58_0 lines) i (lI58_0 lines i.1 i.2)
abbrev lH58_0 (lines:List Za) (i:Nat×Int) (m39:Nat) (i40:Int):Prop:=LpH (F58_s0 lines) (lN58_0 lines) i m39 i40 (lI58_0 lines (m39+1) i40)
abbrev lE58_0 (lines:List Za) (i40:Int) (i40_:Int) (K39:Prop):Prop:=((.int .i64 i40:Value)=.int .i64 i40_)/\(Im (.l 1 eStr lines))/\(Im (.l 1 eStr (lines.map F14)))/\K39
theorem un58_0 (lines:List Za) (i:Nat×Int) (h:lJ58_0 lines i):lH58_0 lines i (i.1-1) i.2:=⟨hd1 h.1 h.2.1,hd3 h.2.1,hd2 h.2.1,h.2.2⟩
theorem bk58_0 (lines:List Za) (i:Nat×Int) (m39:Nat) (i40:Int) (hl:m39<i.1) (e:runL (F58_s0 lines) m39 i40=lX58_0 lines) (h:lI58_0 lines m39 i40):∃ j:Nat×Int,lE58_0 lines i40 j.2 (lJ58_0 lines j/\j.1<i.1):=⟨(m39,i40),rfl,Imp.refl _,Imp.refl _,⟨e,h⟩,hl⟩
theorem en58_0 (lines:List Za) (h:(0:Int)<=0):lE58_0 lines 0 0 (lJ58_0 lines (lN58_0 lines)):=⟨rfl,Imp.refl _,Imp.refl _,rfl,Qr _,h⟩
def S58 (lines:List Za):Spec:=⟨[.r (.c (.l 1 eStr lines))],.v (vI (F58 lines)),(∀ k:Nat,(lines.getD k default).size<=1048576)⟩
theorem ok58 (lines:List Za):(S58 lines).ok Tryz.prog 58 :=
 fnG_ok mixed (fn:=Tryz.f58) (ct:=.seqk [(0,0)] .no (.seq (.seq .no (.cond (.seq .no .no) .no)) (.seq (.reg [(1,kh116a lines)]) (.seq (.seqk [(0,0),(3,0)] .no (.blk (.loop (ι:=Nat×Int) (fun i=>(fun (i40:Int)=>(⟨[(0,some (.h 0 0)),(3,some (.h 1 0)),(4,some (.v (vI i40)))],[(0,some (.shr none (.l 1 eStr lines))),(1,some (.own 1 (.l 1 eStr (lines.map F14))))],2⟩:St)) i.2) (lJ58_0 lines) (fun i=>i.1) (lN58_0 lines) (fun i=>(fun (i40:Int)=>(.seq (.seq .no (.cond .no .no)) (.seq (.blk (.seq .no (.cond (.seq .no .no) .no))) (.reg [(1,.bnd)])))) i.2)))) (.seq (.seqk [(0,0)] .no (.blk (.loop (ι:=Nat×Int) (fun i=>(fun (i41:Int)=>(⟨[(0,some (.h 0 0)),(3,some (.h 1 0)),(5,some (.v (vI i41)))],[(0,some (.shr none (.l 1 eStr lines))),(1,some (.own 1 (.l 1 eStr (lines.map F14))))],2⟩:St)) i.2) (lJ58_1 lines) (fun i=>i.1) (lN58_1 lines) (fun i=>(fun (i41:Int)=>(.seq (.seq .no (.cond .no .no)) (.seq (.blk (.seq (.reg [(2,.bnd)]) (.cond (.seq .no .no) .no))) (.reg [(1,.bnd)])))) i.2)))) (.seq (.seqk [(0,0),(3,0)] .no (.blk (.loop (ι:=Nat×Int) (fun i=>(fun (i42:Int)=>(⟨[(0,some (.h 0 0)),(3,some (.h 1 0)),(6,some (.v (vI i42)))],[(0,some (.shr none (.l 1 eStr lines))),(1,some (.own 1 (.l 1 eStr (lines.map F14))))],2⟩:St)) i.2) (lJ58_2 lines) (fun i=>i.1) (lN58_2 lines) (fun i=>(fun (i42:Int)=>(.seq (.seq .no (.cond .no .no)) (.seq (.blk (.seq (.reg [(7,kh84 ((lines.map F14).take i42.toNat) ((lines.map F14).getD i42.toNat default))]) (.cond (.seq .no .no) .no))) (.reg [(1,.bnd)])))) i.2)))) (.seq .no .no))))))) Tryz.func58 (fun (hpre0:∀ k:Nat,(lines.getD k default).size<=1048576)=>kn lines fun _=>ifd ((lines.length:Int)>16) (fun h1 _=>fiI 1 (F58 lines) (condT h1 rfl)) (fun h1 _=>kc116a lines uu2 uu69 (kn lines fun _=>kn (lines.map F14) fun _=>ai (en58_0 lines uu2) (fun (i0:Nat×Int) (hi0:lJ58_0 lines i0)=>(fun (m0:Nat) (i40:Int) (hh0:lH58_0 lines i0 m0 i40)=>have hI0:=hh0.1; have hl0:=hh0.2.1; have _:=hh0.2.2.1; have _:=hh0.2.2.2; ifd (i40<(lines.length:Int)) (fun h3 _=>ai (uu2:ib i40 (lines.map F14)) (ifb (((lines.map F14).getD i40.toNat default).toList==Zf.toList) (fun h4=>fiI 2 (F58 lines) (condF h1 (finR (runL_ret hI0 (condT h3 (condT h4 rfl))) rfl))) (fun h4=>ai (iok (i40+1) uu2) (bk58_0 lines i0 m0 (i40+1) hl0 (runL_next hI0 (condT h3 (condF h4 rfl))) uu20)))) (fun h3 _=>have hD0_5:lX58_0 lines=Lp.done i40:=runL_done hI0 (condF h3 rfl); kn lines fun _=>ai (en58_1 lines uu20) (fun (i1:Nat×Int) (hi1:lJ58_1 lines i1)=>(fun (m1:Nat) (i41:Int) (hh1:lH58_1 lines i1 m1 i41)=>have hI1:=hh1.1; have hl1:=hh1.2.1; have _:=hh1.2.2.1; have _:=hh1.2.2.2; ifd (i41<(lines.length:Int)) (fun h7 _=>ai (iok (i41-1) uu2) (ai (uu2:ib (i41-1) lines) (ai (uu2:ib i41 lines) (ifb (!(Op.bytesLess (lines.getD (i41-1).toNat default).toList (lines.getD i41.toNat default).toList)) (fun h8=>fiI 3 (F58 lines) (condF h1 (finD hD0_5 (finR (runL_ret hI1 (condT h7 (condT h8 rfl))) rfl)))) (fun h8=>ai (iok (i41+1) uu2) (bk58_1 lines i1 m1 (i41+1) hl1 (runL_next hI1 (condT h7 (condF h8 rfl))) uu25)))))) (fun h7 _=>have hD1_9:lX58_1 lines=Lp.done i41:=runL_done hI1 (condF h7 rfl); kn lines fun _=>kn (lines.map F14) fun _=>ai (en58_2 lines uu2) (fun (i2:Nat×Int) (hi2:lJ58_2 lines i2)=>(fun (m2:Nat) (i42:Int) (hh2:lH58_2 lines i2 m2 i42)=>have hI2:=hh2.1; have hl2:=hh2.2.1; have _:=hh2.2.2.1; have _:=hh2.2.2.2; ifd (i42<(lines.length:Int)) (fun h11 _=>ai (uu2:0<=(0:Int)/\(0:Int)<=i42/\i42<=((lines.map F14).length:Int)) (ai (uu2:ib i42 (lines.map F14)) (kc84 ((lines.map F14).take i42.toNat) ((lines.map F14).getD i42.toNat default) (ifb (F84 ((lines.map F14).take i42.toNat) ((lines.map F14).getD i42.toNat default)) (fun h12=>fiI 4 (F58 lines) (condF h1 (finD hD0_5 (finD hD1_9 (finR (runL_ret hI2 (condT h11 (condT h12 rfl))) rfl))))) (fun h12=>ai (iok (i42+1) uu2) (bk58_2 lines i2 m2 (i42+1) hl2 (runL_next hI2 (condT h11 (condF h12 rfl))) uu20)))))) (fun h11 _=>have hD2_13:lX58_2 lines=Lp.done i42:=runL_done hI2 (condF h11 rfl); fiI 0 (F58 lines) (condF h1 (finD hD0_5 (finD hD1_9 (finD hD2_13 rfl)))))) (i2.1-1) i2.2 (un58_2 lines i2 hi2)))) (i1.1-1) i1.2 (un58_1 lines i1 hi1)))) (i0.1-1) i0.2 (un58_0 lines i0 hi0))))) uu3
instance baLawful:LawfulBEq Za where
 eq_of_beq h:=(Go.MapKept.bytes_beq _ _).1 h
 rfl:=(Go.MapKept.bytes_beq _ _).2 rfl
theorem key_none (l:Za) (h:F47 l=false):F14 l=Zf:=by
 unfold F14
 rw [h]; rfl
theorem key_empty (l:Za):((F14 l).toList==Zf.toList)=!F47 l:=by
 cases h:F47 l with
 | false=>rw [key_none l h]; rw [beq_ba]; rfl
 | true =>
  rw [byteToList,byteToList,key_eq l h,Sc,Qw]
  have hk:=keptP l h
  have hl:=form_two_le _ hk.form
  have hn:=form_key_le _ hk.form
  have hno:=hk.no
  generalize (F11 l).1=w at hl hn hno
  match w,hl with
  | a :: r,_ =>
   have e:((keyN (((a :: r).getD 0 default).data.toList)).toNat)=(keyN (((a :: r).getD 0 default).data.toList)).toNat-1+1:=by omega
   rw [e,List.take_succ_cons,joinS_data,Rc,Lib.join_cons]
   intro h0
   exact (hno a Qi).2.1 (List.append_eq_nil_iff.1 h0).1
def dupK:List Za->List Za->Bool
 | _,[]=>false
 | seen,s :: r=>decide (s∈seen) || dupK (seen++[s]) r
def insK (ks:List Za) (s:Za):List Za:=if s∈ks then ks else ks++[s]
theorem insK_le:∀ (keys ks:List Za),(keys.foldl insK ks).length<=ks.length+keys.length
 | [],ks=>by simp
 | s :: r,ks=>by
  rw [Sy]
  have h:=insK_le r (insK ks s)
  have h2:(insK ks s).length<=ks.length+1:=by unfold insK; split <;> simp
  simp only [Qx]; omega
theorem insK_dup:∀ (keys ks seen:List Za),(∀ s,s∈ks↔s∈seen)->decide ((keys.foldl insK ks).length<ks.length+keys.length)=dupK seen keys
 | [],ks,seen,_=>by simp [dupK]
 | s :: r,ks,seen,h=>by
  rw [Sy,dupK]
  by_cases hs:s∈ks
  ·have e:insK ks s=ks:=by unfold insK; rw [if_pos hs]
   rw [e,Qs ((h s).1 hs),Bool.true_or]
   have:=insK_le r ks
   exact Qs uu38
  ·have e:insK ks s=ks++[s]:=by unfold insK; rw [if_neg hs]
   rw [e,Qq (fun x=>hs ((h s).2 x)),G7,<- insK_dup r (ks++[s]) (seen++[s]) (fun t=>by simp [h t])]
   congr 1
   simp only [Qu,Qx,Rs]
   exact propext ⟨fun x=>by omega,fun x=>by omega⟩
theorem putM_keys {α:Type}:∀ (m:ML α) (s:Za) (x:α),(putM m s x).map (·.1)=insK (m.map (·.1)) s
 | [],s,x=>by simp [putM,insK]
 | p :: m,s,x=>by
  rw [putM]
  by_cases h:p.1=s
  ·rw [if_pos h]; subst h; simp [insK]
  ·rw [if_neg h,Rc,putM_keys m s x]
   unfold insK
   have h':¬ s=p.1:=fun e=>h e.symm
   by_cases hm:s∈m.map (·.1)
   ·rw [if_pos hm,Rc,if_pos (Qg _ hm)]
   ·rw [if_neg hm,Rc,if_neg (by simp only [Qt,not_or]; exact ⟨h',hm⟩)]; rfl
theorem foldM_keys {α:Type} (f:Za->Za) (v:Za->α):∀ (ls:List Za) (m:ML α),(ls.foldl (fun m l=>putM m (f l) (v l)) m).map (·.1)=(ls.map f).foldl insK (m.map (·.1))
 | [],m=>rfl
 | l :: ls,m=>by
  rw [Sy,foldM_keys f v ls,putM_keys,Rc,Sy]
theorem specHas_mem (ws:List Za) (x:Za):F84 ws x=decide (x∈ws):=by
 rw [specHas_eq,Tt,Ry,Rj]
 constructor
 ·rintro ⟨e,he,h⟩
  rw [beq_ba,Rj] at h
  exact h ▸ he
 ·exact fun h=>⟨x,h,by rw [beq_ba]; exact Qs rfl⟩
theorem dup_loop (keys:List Za):∀ (m i:Nat),i+m=keys.length->anyF (fun k=>decide (keys.getD k default∈keys.take k)) i m=dupK (keys.take i) (keys.drop i)
 | 0,i,h=>by rw [Q3 uu0]; rfl
 | m+1,i,h=>by
  have hd:keys.drop i=keys.getD i default :: keys.drop (i+1):=by
   rw [Rd (show i<keys.length by omega),Qe,Qj (show i<keys.length by omega)]; rfl
  rw [hd,dupK,anyF,dup_loop keys m (i+1) uu0,take_next (show i<keys.length by omega)]
theorem getD_map (f:Za->Za) (ls:List Za) (i:Nat) (h:i<ls.length):(ls.map f).getD i default=f (ls.getD i default):=by
 rw [getD_lt _ (by simpa using h),getD_lt _ h,List.getElem_map]
theorem anyL_congr {α:Type} {p q:α->Bool} {xs:List α} (h:∀ x,p x=q x):xs.any p=xs.any q:=by rw [show p=q from funext h]
theorem neat_same (lines:List Za):F52 lines=F58 lines:=by
 unfold F52 F58
 have hkept:∀ x:Za,F101 x=!F47 x:=fun x=>by unfold F101; rw [keptSo_eq]
 cases h16:decide ((lines.length:Int)>16) with
 | true=>rfl
 | false =>
 rw [Qb,Qb]
 have h0:=anyL lines (fun l=>!F47 l) (2:Int) (F58_s0 lines) (fun i hi=>by
  simp only [F58_s0,ltD hi,Qc,nn,getD_map _ _ _ hi,key_empty]
  rfl) uu45 (fun r=>r) (fun _=>(runL (F58_s1 lines) ((Int.toNat ((lines.length:Int)-1))+1) 1).fin (fun r=>r) (fun i41=>(runL (F58_s2 lines) ((Int.toNat ((lines.length:Int)-0))+1) 0).fin (fun r=>r) (fun i42=>0))) _ (fun _=>rfl)
 rw [h0]
 have e1:(lines.any fun x0=>F101 x0)=lines.any fun l=>!F47 l:=anyL_congr hkept
 rw [e1]
 cases (lines.any fun l=>!F47 l) with
 | true=>rfl
 | false =>
 rw [Qb,Qb]
 have e2:F52_s0 lines=F58_s1 lines:=rfl
 rw [e2]
 congr 1
 funext i
 have h2:=any_loop (F58_s2 lines) lines.length (fun k=>decide ((lines.map F14).getD k default∈(lines.map F14).take k)) (4:Int) (fun r=>r) (0:Int) (fun i hi=>by
  simp only [F58_s2,ltD hi,Qc,nn,specHas_mem]; rfl) (by simp only [F58_s2,geD,Qb]) lines.length 0 uu0 (Int.toNat ((lines.length:Int)-0)+1) uu0
 rw [dup_loop (lines.map F14) lines.length 0 uu14,Gd,Ro] at h2
 refine Eq.trans ?_ h2.symm
 have h3:=fold_loop0 lines (fun (m:ML Bool) l=>putM m (F14 l) true) (fun m i=>(i,m)) (F52_s1 lines) (fun i s hi=>by
  simp only [F52_s1,ltD hi,Qc,nn,key_same]; rfl) (fun s=>by simp only [F52_s1,geD,Qb]) Lp.ret (fun (v31,ms)=>Lp.done ms) ([]:ML Bool)
 have h4:F52_j0 lines=Lp.done (lines.foldl (fun (m:ML Bool) l=>putM m (F14 l) true) []):=h3
 rw [h4]
 show (bif decide (((lines.foldl (fun (m:ML Bool) l=>putM m (F14 l) true) []).length:Int)<(lines.length:Int)) then (4:Int) else 0)=_
 have h5:=insK_dup (lines.map F14) [] [] (fun s=>Iff.rfl)
 have h6:(lines.foldl (fun (m:ML Bool) l=>putM m (F14 l) true) []).length=((lines.map F14).foldl insK []).length:=by
  have:=Qh List.length (foldM_keys F14 (fun _=>true) lines [])
  rw [Sg] at this
  exact this
 rw [<- h5,h6]
 congr 1
 simp only [Rs,R4,Sg]
 exact T1.2 uu0
theorem nt_facts (lines:List Za) (h:F58 lines=0):lines.length<=16/\∀ l∈lines,F47 l=true:=by
 unfold F58 at h
 cases h16:decide ((lines.length:Int)>16) with
 | true=>rw [h16,Qc] at h; exact absurd h uu1
 | false =>
 rw [h16,Qb] at h
 have h0:=anyL lines (fun l=>!F47 l) (2:Int) (F58_s0 lines) (fun i hi=>by
  simp only [F58_s0,ltD hi,Qc,nn,getD_map _ _ _ hi,key_empty]
  rfl) uu45 (fun r=>r) (fun _=>(runL (F58_s1 lines) ((Int.toNat ((lines.length:Int)-1))+1) 1).fin (fun r=>r) (fun i41=>(runL (F58_s2 lines) ((Int.toNat ((lines.length:Int)-0))+1) 0).fin (fun r=>r) (fun i42=>0))) _ (fun _=>rfl)
 rw [h0] at h
 cases ha:(lines.any fun l=>!F47 l) with
 | true=>rw [ha,Qc] at h; exact absurd h uu1
 | false =>
  have h1:=Qv h16
  refine ⟨by omega,fun l hl=>?_⟩
  have:=List.any_eq_false.1 ha l hl
  cases hk:F47 l with
  | true=>rfl
  | false=>rw [hk] at this; exact absurd rfl this
theorem neat_len (lines:List Za) (h:F58 lines=0):lines.length<=16:=(nt_facts lines h).1
theorem linesL_len (lines:List Za) (word:Za) (h:lines.length<=16):(linesL lines word).length<=16:=by
 unfold linesL
 have:=List.length_filter_le (fun w:List Za=>(w.getD 0 default).data.toList==word.data.toList) (lines.map fun l=>splitS l Zd)
 rw [Sg] at this
 omega
theorem kept_split (l:Za) (h:F47 l=true):splitS l Zd=(F11 l).1:=(keptP l h).splits
theorem linesL_mem {lines:List Za} {word:Za} {w:List Za} (h:F58 lines=0) (hw:w∈linesL lines word):∃ l∈lines,KeptP l w/\(w.getD 0 default).data.toList=word.data.toList:=by
 obtain ⟨h1,h2⟩:=Sz.1 hw
 obtain ⟨l,hl,rfl⟩:=Sr.1 h1
 have hk:=(nt_facts lines h).2 l hl
 refine ⟨l,hl,?_,eq_of_beq h2⟩
 rw [kept_split l hk]
 exact keptP l hk
theorem linesL_at {lines:List Za} {word:Za} (h:F58 lines=0) {k:Nat} (hk:k<(linesL lines word).length):FormP ((linesL lines word).getD k default)/\(((linesL lines word).getD k default).getD 0 default).data.toList=word.data.toList:=by
 obtain ⟨l,hl,h1,h2⟩:=linesL_mem h (getD_mem _ hk)
 exact ⟨h1.form,h2⟩
theorem linesL_sz24 (lines:List Za) (word:Za) (h:F58 lines=0) (k j:Nat):(((linesL lines word).getD k default).getD j default).size<=24:=by
 by_cases hk:k<(linesL lines word).length
 ·obtain ⟨l,hl,h1,h2⟩:=linesL_mem h (getD_mem _ hk)
  by_cases hj:j<((linesL lines word).getD k default).length
  ·exact (h1.no _ (getD_mem _ hj)).2.2
  ·rw [getD_ge _ (show ((linesL lines word).getD k default).length<=j by omega)]; exact Re _
 ·rw [getD_ge _ (show (linesL lines word).length<=k by omega)]; exact Re _
theorem linesL_sz (lines:List Za) (word:Za) (h:F58 lines=0) (k j:Nat):(((linesL lines word).getD k default).getD j default).size<=1048576:=Q0 (linesL_sz24 lines word h k j) uu1
theorem user_of {w:List Za} (h:FormP w) (h0:(w.getD 0 default).data.toList=[117,115,101,114]):userP w:=by
 rcases h with h | h | h | h | h | h | h | h
 ·exact absurd (h0.symm.trans h.1) uu1
 ·exact h
 ·exact absurd (h0.symm.trans h.1) uu1
 ·exact absurd (h0.symm.trans h.1) uu1
 ·exact absurd (h0.symm.trans h.1) uu1
 ·exact absurd (h0.symm.trans h.1) uu1
 ·exact absurd (h0.symm.trans h.1) uu1
 ·exact absurd (h0.symm.trans h.1) uu1
theorem user_at (lines:List Za) (h:F58 lines=0):∀ k:Nat,k<(linesL lines Zk).length->userP ((linesL lines Zk).getD k default):=fun k hk=>user_of (linesL_at h hk).1 (linesL_at h hk).2
theorem port_of {w:List Za} (h:FormP w) (h0:(w.getD 0 default).data.toList=[112,111,114,116]):portP w:=by
 rcases h with h | h | h | h | h | h | h | h
 ·exact absurd (h0.symm.trans h.1) uu1
 ·exact absurd (h0.symm.trans h.1) uu1
 ·exact h
 ·exact absurd (h0.symm.trans h.1) uu1
 ·exact absurd (h0.symm.trans h.1) uu1
 ·exact absurd (h0.symm.trans h.1) uu1
 ·exact absurd (h0.symm.trans h.1) uu1
 ·exact absurd (h0.symm.trans h.1) uu1
theorem port_at (lines:List Za) (h:F58 lines=0):∀ k:Nat,k<(linesL lines Ze).length->portP ((linesL lines Ze).getD k default):=fun k hk=>port_of (linesL_at h hk).1 (linesL_at h hk).2
theorem rule_of {w:List Za} (h:FormP w) (h0:(w.getD 0 default).data.toList=[114,117,108,101]):ruleP w:=by
 rcases h with h | h | h | h | h | h | h | h
 ·exact absurd (h0.symm.trans h.1) uu1
 ·exact absurd (h0.symm.trans h.1) uu1
 ·exact absurd (h0.symm.trans h.1) uu1
 ·exact h
 ·exact absurd (h0.symm.trans h.1) uu1
 ·exact absurd (h0.symm.trans h.1) uu1
 ·exact absurd (h0.symm.trans h.1) uu1
 ·exact absurd (h0.symm.trans h.1) uu1
theorem rule_at (lines:List Za) (h:F58 lines=0):∀ k:Nat,k<(linesL lines Zg).length->ruleP ((linesL lines Zg).getD k default):=fun k hk=>rule_of (linesL_at h hk).1 (linesL_at h hk).2
theorem route_of {w:List Za} (h:FormP w) (h0:(w.getD 0 default).data.toList=[114,111,117,116,101]):routeP w:=by
 rcases h with h | h | h | h | h | h | h | h
 ·exact absurd (h0.symm.trans h.1) uu1
 ·exact absurd (h0.symm.trans h.1) uu1
 ·exact absurd (h0.symm.trans h.1) uu1
 ·exact absurd (h0.symm.trans h.1) uu1
 ·exact h
 ·exact absurd (h0.symm.trans h.1) uu1
 ·exact absurd (h0.symm.trans h.1) uu1
 ·exact absurd (h0.symm.trans h.1) uu1
theorem route_at (lines:List Za) (h:F58 lines=0):∀ k:Nat,k<(linesL lines Zi).length->routeP ((linesL lines Zi).getD k default):=fun k hk=>route_of (linesL_at h hk).1 (linesL_at h hk).2
theorem peer_of {w:List Za} (h:FormP w) (h0:(w.getD 0 default).data.toList=[112,101,101,114]):peerP w:=by
 rcases h with h | h | h | h | h | h | h | h
 ·exact absurd (h0.symm.trans h.1) uu1
 ·exact absurd (h0.symm.trans h.1) uu1
 ·exact absurd (h0.symm.trans h.1) uu1
 ·exact absurd (h0.symm.trans h.1) uu1
 ·exact absurd (h0.symm.trans h.1) uu1
 ·exact h
 ·exact absurd (h0.symm.trans h.1) uu1
 ·exact absurd (h0.symm.trans h.1) uu1
theorem peer_at (lines:List Za) (h:F58 lines=0):∀ k:Nat,k<(linesL lines Zh).length->peerP ((linesL lines Zh).getD k default):=fun k hk=>peer_of (linesL_at h hk).1 (linesL_at h hk).2
theorem nat_of {w:List Za} (h:FormP w) (h0:(w.getD 0 default).data.toList=[110,97,116]):natP w:=by
 rcases h with h | h | h | h | h | h | h | h
 ·exact absurd (h0.symm.trans h.1) uu1
 ·exact absurd (h0.symm.trans h.1) uu1
 ·exact absurd (h0.symm.trans h.1) uu1
 ·exact absurd (h0.symm.trans h.1) uu1
 ·exact absurd (h0.symm.trans h.1) uu1
 ·exact absurd (h0.symm.trans h.1) uu1
 ·exact h
 ·exact absurd (h0.symm.trans h.1) uu1
theorem nat_at (lines:List Za) (h:F58 lines=0):∀ k:Nat,k<(linesL lines Zc).length->natP ((linesL lines Zc).getD k default):=fun k hk=>nat_of (linesL_at h hk).1 (linesL_at h hk).2
theorem door_of {w:List Za} (h:FormP w) (h0:(w.getD 0 default).data.toList=[100,111,111,114]):doorP w:=by
 rcases h with h | h | h | h | h | h | h | h
 ·exact absurd (h0.symm.trans h.1) uu1
 ·exact absurd (h0.symm.trans h.1) uu1
 ·exact absurd (h0.symm.trans h.1) uu1
 ·exact absurd (h0.symm.trans h.1) uu1
 ·exact absurd (h0.symm.trans h.1) uu1
 ·exact absurd (h0.symm.trans h.1) uu1
 ·exact absurd (h0.symm.trans h.1) uu1
 ·exact h
theorem door_at (lines:List Za) (h:F58 lines=0):∀ k:Nat,k<(linesL lines Zb).length->doorP ((linesL lines Zb).getD k default):=fun k hk=>door_of (linesL_at h hk).1 (linesL_at h hk).2
theorem kc103a (lines:List Za) (word:Za) {K_:Prop} (p0_:lines.length<=1048576) (p1_:∀ k:Nat,(lines.getD k default).size<=1048576) (q0_:lines.length<=16) (k_:((linesL lines word).length<=16)->K_):(lines.length<=1048576/\(∀ k:Nat,(lines.getD k default).size<=1048576))/\(Imp (.l 1 eStr lines) (.l 1 eStr lines))/\(Imp (.v (.string word)) (.v (.string word)))/\K_:=⟨⟨p0_,p1_⟩,Imp.refl _,Imp.refl _,k_ (linesL_len lines word q0_)⟩
abbrev kh103a (lines:List Za) (word:Za):Hint true Tryz.prog:=.call 103 (T103 (linesL lines word) lines word) (oa103 lines word) none
abbrev kh103af (lines:List Za) (word:Za):Hint false Tryz.prog:=.call 103 (T103 (linesL lines word) lines word) ((oa103 lines word).to false) none
def F107_s0 (lines:List Za):(List NetPrefix×Int)->Lp (List NetPrefix×Int) (List NetPrefix):=fun (out,v12) =>
 bif (decide (v12<((linesL lines Ze).length:Int))) then (.next ((out++[(F114 (((linesL lines Ze).getD (Int.toNat v12) default).getD (Int.toNat 2) default)).1]),(v12+1))) else (.done (out,v12))
def F107 (lines:List Za):List NetPrefix :=
 (runL (F107_s0 lines) ((Int.toNat (((linesL lines Ze).length:Int)-0))+1) (([]:List NetPrefix),0)).fin (fun r=>r) (fun (out,v12)=>out)
abbrev lN107_0 (lines:List Za):Nat×(List NetPrefix×Int):=(((Int.toNat (((linesL lines Ze).length:Int)-0))+1),(([]:List NetPrefix),0))
abbrev lI107_0 (lines:List Za) (m39:Nat) (out:List NetPrefix) (v12:Int):Prop:=Int.toNat (((linesL lines Ze).length:Int)-v12)<m39/\(out.length:Int)<=v12/\(0:Int)<=v12
abbrev lX107_0 (lines:List Za):Lp (List NetPrefix×Int) (List NetPrefix):=LpX (F107_s0 lines) (lN107_0 lines)
abbrev lJ107_0 (lines:List Za) (i:Nat×(List NetPrefix×Int)):Prop:=LpJ (F107_s0 lines) (lN107_0 lines) i (lI107_0 lines i.1 i.2.1 i.2.2)
abbrev lH107_0 (lines:List Za) (i:Nat×(List NetPrefix×Int)) (m39:Nat) (out:List NetPrefix) (v12:Int):Prop:=LpH (F107_s0 lines) (lN107_0 lines) i m39 (out,v12) (lI107_0 lines (m39+1) out v12)
abbrev lE107_0 (lines:List Za) (out:List NetPrefix) (v12:Int) (out_:List NetPrefix) (v12_:Int) (K39:Prop):Prop:=(Rf (.int .i64 ((linesL lines Ze).length:Int)))/\((.int .i64 v12:Value)=.int .i64 v12_)/\(Imp (.l 2 eNetPrefix out) (.l 2 eNetPrefix out_))/\(Im (.l 1 (eL 1 eStr) (linesL lines Ze)))/\K39
theorem un107_0 (lines:List Za) (i:Nat×(List NetPrefix×Int)) (h:lJ107_0 lines i):lH107_0 lines i (i.1-1) i.2.1 i.2.2:=⟨hd1 h.1 h.2.1,hd3 h.2.1,hd2 h.2.1,h.2.2⟩
theorem bk107_0 (lines:List Za) (i:Nat×(List NetPrefix×Int)) (m39:Nat) (out:List NetPrefix) (v12:Int) (hl:m39<i.1) (e:runL (F107_s0 lines) m39 (out,v12)=lX107_0 lines) (h:lI107_0 lines m39 out v12):∃ j:Nat×(List NetPrefix×Int),lE107_0 lines out v12 j.2.1 j.2.2 (lJ107_0 lines j/\j.1<i.1):=⟨(m39,(out,v12)),rfl,rfl,Imp.refl _,Imp.refl _,⟨e,h⟩,hl⟩
theorem en107_0 (lines:List Za) (h:(([]:List NetPrefix).length:Int)<=0/\(0:Int)<=0):lE107_0 lines ([]:List NetPrefix) 0 ([]:List NetPrefix) 0 (lJ107_0 lines (lN107_0 lines)):=⟨rfl,rfl,Imp.refl _,Imp.refl _,rfl,Qr _,h⟩
theorem fi107 (lines:List Za) (r:List NetPrefix) (hF:r=(F107 lines)):(Imp (.l 2 eNetPrefix r) (.l 2 eNetPrefix (F107 lines)))/\True:=by cases hF; exact ⟨Imp.refl _,trivial⟩
def S107 (R:List NetPrefix) (lines:List Za):Spec:=⟨[.r (.c (.l 1 eStr lines))],.ow (.l 2 eNetPrefix R),F58 lines=0/\lines.length<=16/\(∀ k:Nat,(lines.getD k default).size<=1048576)⟩
theorem ok107 (lines:List Za):(S107 (F107 lines) lines).ok Tryz.prog 107 false :=
 fnG_ok mixed (fn:=Tryz.f107) (ct:=.seqk [(0,0)] .no (.seq (.reg [(0,.dat (.l 2 eNetPrefix ([]:List NetPrefix)))]) (.seq (.seqk [(3,0),(10,0)] (.reg [(1,kh103af lines Ze)]) (.blk (.loop (ι:=Nat×(List NetPrefix×Int)) (fun i=>(fun (out:List NetPrefix) (v12:Int)=>(⟨[(3,some (.h 0 0)),(10,some (.h 1 0)),(11,some (.v (vI ((linesL lines Ze).length:Int)))),(12,some (.v (vI v12)))],[(0,some (.own 0 (.l 2 eNetPrefix out))),(1,some (.own 1 (.l 1 (eL 1 eStr) (linesL lines Ze))))],2⟩:St)) i.2.1 i.2.2) (lJ107_0 lines) (fun i=>i.1) (lN107_0 lines) (fun i=>(fun (out:List NetPrefix) (v12:Int)=>(.seq .no (.seq (.cond .no .no) (.seq (.blk (.seq .no (.seq (.reg [(3,kh114 (((linesL lines Ze).getD (Int.toNat v12) default).getD (Int.toNat 2) default))]) (.reg [(3,.dat (.l 2 eNetPrefix (out++[(F114 (((linesL lines Ze).getD (Int.toNat v12) default).getD (Int.toNat 2) default)).1])))])))) (.reg [(0,.bnd)]))))) i.2.1 i.2.2)))) (.seq .no .no)))) Tryz.func107 (fun (hp:F58 lines=0/\lines.length<=16/\(∀ k:Nat,(lines.getD k default).size<=1048576))=>have hpre0:=hp.1; have hpre1:=hp.2.1; have hpre2:=hp.2.2; kn lines fun _=>ai (bokr 2 eNetPrefix ([]:List NetPrefix) fun _=>rfl) (kc103a lines Ze uu2 uu46 uu2 (fun gv1=>kn ([]:List NetPrefix) fun _=>kn (linesL lines Ze) fun _=>ai (en107_0 lines uu20) (fun (i0:Nat×(List NetPrefix×Int)) (hi0:lJ107_0 lines i0)=>(fun (m0:Nat) (out:List NetPrefix) (v12:Int) (hh0:lH107_0 lines i0 m0 out v12)=>have hI0:=hh0.1; have hl0:=hh0.2.1; have _:=hh0.2.2.1; have _:=hh0.2.2.2; ifd (v12<((linesL lines Ze).length:Int)) (fun h3 _=>ai (uu71:0<=v12/\v12<((linesL lines Ze).length:Int)) (ai (uu71:0<=(2:Int)/\(2:Int)<(((linesL lines Ze).getD (Int.toNat v12) default).length:Int)) (kc114 (((linesL lines Ze).getD (Int.toNat v12) default).getD (Int.toNat 2) default) uu26 (ai (appr 2 eNetPrefix out [(F114 (((linesL lines Ze).getD (Int.toNat v12) default).getD (Int.toNat 2) default)).1] fun _=>rfl) (ai (uu17:(out++[(F114 (((linesL lines Ze).getD (Int.toNat v12) default).getD (Int.toNat 2) default)).1]).length*16<=140737488355328) (ai (iok (v12+1) uu2) (bk107_0 lines i0 m0 (out++[(F114 (((linesL lines Ze).getD (Int.toNat v12) default).getD (Int.toNat 2) default)).1]) (v12+1) hl0 (runL_next hI0 (condT h3 rfl)) uu25))))))) (fun h3 _=>have hD0_4:lX107_0 lines=Lp.done (out,v12):=runL_done hI0 (condF h3 rfl); fi107 lines out (finD hD0_4 rfl))) (i0.1-1) i0.2.1 i0.2.2 (un107_0 lines i0 hi0))))) uu3
def F104 (w1:List Za):Bool :=
 ((w1.getD (Int.toNat 2) default).toList==Zr.toList)
def S104 (w1:List Za):Spec:=⟨[.r (.c (.l 1 eStr w1))],.v (.bool (F104 w1)),userP w1⟩
theorem ok104 (w1:List Za):(S104 w1).ok Tryz.prog 104 :=
 fnG_ok mixed (fn:=Tryz.f104) (ct:=.seqk [(0,0)] .no (.seq .no .no)) Tryz.func104 (fun (hpre0:userP w1)=>kn w1 fun _=>ai (by (have h9:=hpre0; unfold userP at h9; omega):0<=(2:Int)/\(2:Int)<(w1.length:Int)) (fiB ((w1.getD (Int.toNat 2) default).toList==Zr.toList) (F104 w1) rfl)) uu3
def fsQ58 (Q:(List Za)->Prop) (p:(List Za)->Bool):FnSpec:=⟨List Za,fun i=>[.c (.x (PX (.l 1 eStr i) (Q i)))],fun i=>.bool (p i)⟩
def F148_s0 (s:List (List Za)) (f:(List Za)->Bool):Int->Lp Int Int:=fun v8 =>
 bif (decide (v8<(s.length:Int))) then (bif (f (s.getD (Int.toNat v8) default)) then (.ret v8) else (.next (v8+1))) else (.done v8)
def F148 (s:List (List Za)) (f:(List Za)->Bool):Int :=
 (runL (F148_s0 s f) ((Int.toNat ((s.length:Int)-0))+1) 0).fin (fun r=>r) (fun v8=>(-1))
abbrev lN148_0 (s:List (List Za)):Nat×Int:=(((Int.toNat ((s.length:Int)-0))+1),0)
abbrev lI148_0 (s:List (List Za)) (m39:Nat) (v8:Int):Prop:=Int.toNat ((s.length:Int)-v8)<m39/\(0:Int)<=v8
abbrev lX148_0 (s:List (List Za)) (f:(List Za)->Bool):Lp Int Int:=LpX (F148_s0 s f) (lN148_0 s)
abbrev lJ148_0 (s:List (List Za)) (f:(List Za)->Bool) (i:Nat×Int):Prop:=LpJ (F148_s0 s f) (lN148_0 s) i (lI148_0 s i.1 i.2)
abbrev lH148_0 (s:List (List Za)) (f:(List Za)->Bool) (i:Nat×Int) (m39:Nat) (v8:Int):Prop:=LpH (F148_s0 s f) (lN148_0 s) i m39 v8 (lI148_0 s (m39+1) v8)
abbrev lE148_0 (Qf:(List Za)->Prop) (s:List (List Za)) (f:(List Za)->Bool) (v8:Int) (v8_:Int) (K39:Prop):Prop:=(Rf (.int .i64 (s.length:Int)))/\((.int .i64 v8:Value)=.int .i64 v8_)/\(Im (.l 1 (eL 1 eStr) s))/\(fsQ58 Qf f=fsQ58 Qf f)/\K39
theorem un148_0 (s:List (List Za)) (f:(List Za)->Bool) (i:Nat×Int) (h:lJ148_0 s f i):lH148_0 s f i (i.1-1) i.2:=⟨hd1 h.1 h.2.1,hd3 h.2.1,hd2 h.2.1,h.2.2⟩
theorem bk148_0 (Qf:(List Za)->Prop) (s:List (List Za)) (f:(List Za)->Bool) (i:Nat×Int) (m39:Nat) (v8:Int) (hl:m39<i.1) (e:runL (F148_s0 s f) m39 v8=lX148_0 s f) (h:lI148_0 s m39 v8):∃ j:Nat×Int,lE148_0 Qf s f v8 j.2 (lJ148_0 s f j/\j.1<i.1):=⟨(m39,v8),rfl,rfl,Imp.refl _,rfl,⟨e,h⟩,hl⟩
theorem en148_0 (Qf:(List Za)->Prop) (s:List (List Za)) (f:(List Za)->Bool) (h:(0:Int)<=0):lE148_0 Qf s f 0 0 (lJ148_0 s f (lN148_0 s)):=⟨rfl,rfl,Imp.refl _,rfl,rfl,Qr _,h⟩
def S148 (R:Int) (s:List (List Za)) (f:(List Za)->Bool) (Qf:(List Za)->Prop):Spec:=⟨[.r (.c (.l 1 (eL 1 eStr) s)),.fn (fsQ58 Qf f)],.v (vI R),(∀ k:Nat,k<s.length->Qf (s.getD k default))⟩
theorem ok148 (s:List (List Za)) (f:(List Za)->Bool) (Qf:(List Za)->Prop):(S148 (F148 s f) s f Qf).ok Tryz.prog 148 false :=
 fnG_ok mixed (fn:=Tryz.f148) (ct:=.seqk [(0,0)] .no (.seq (.seqk [(0,0)] .no (.blk (.loop (ι:=Nat×Int) (fun i=>(fun (v8:Int)=>(⟨[(0,some (.h 0 0)),(1,some (.h 1 0)),(7,some (.v (vI (s.length:Int)))),(8,some (.v (vI v8)))],[(0,some (.shr none (.l 1 (eL 1 eStr) s))),(1,some (.fn (fsQ58 Qf f)))],2⟩:St)) i.2) (lJ148_0 s f) (fun i=>i.1) (lN148_0 s) (fun i=>(fun (v8:Int)=>(.seq .no (.seq (.cond .no .no) (.seq (.blk (.seq .no (.seq (.reg [(5,.fnv (fsQ58 Qf f) (s.getD (Int.toNat v8) default))]) (.cond (.seq .no .no) .no)))) (.reg [(0,.bnd)]))))) i.2)))) (.seq .no .no))) Tryz.func148 (fun (hpre0:∀ k:Nat,k<s.length->Qf (s.getD k default))=>kn s fun _=>kn s fun _=>ai (en148_0 Qf s f uu0) (fun (i0:Nat×Int) (hi0:lJ148_0 s f i0)=>(fun (m0:Nat) (v8:Int) (hh0:lH148_0 s f i0 m0 v8)=>have hI0:=hh0.1; have hl0:=hh0.2.1; have _:=hh0.2.2.1; have _:=hh0.2.2.2; ifd (v8<(s.length:Int)) (fun h2 _=>ai (uu0:ib v8 s) (ai (Eq.refl (fsQ58 Qf f)) (ai (Imp.px (d:=.l 1 eStr (s.getD (Int.toNat v8) default)) (hpre0 (Int.toNat v8) uu0)) (ifb (f (s.getD (Int.toNat v8) default)) (fun h3=>fiI v8 (F148 s f) (finR (runL_ret hI0 (condT h2 (condT h3 rfl))) rfl)) (fun h3=>ai (iok (v8+1) uu0) (bk148_0 Qf s f i0 m0 (v8+1) hl0 (runL_next hI0 (condT h2 (condF h3 rfl))) uu6)))))) (fun h2 _=>have hD0_4:lX148_0 s f=Lp.done v8:=runL_done hI0 (condF h2 rfl); fiI (-1) (F148 s f) (finD hD0_4 rfl))) (i0.1-1) i0.2 (un148_0 s f i0 hi0))) uu3
theorem as148 (s:List (List Za)) (f:(List Za)->Bool):F148 s f=(idxI f s):=by
 exact idx_loop f s (F148_s0 s f) (fun i=>rfl)
theorem oa148 (s:List (List Za)) (f:(List Za)->Bool) (Qf:(List Za)->Prop):(S148 (idxI f s) s f Qf).ok Tryz.prog 148 false:=by
 intro hp; have h:=ok148 s f Qf hp; rw [as148 s f] at h; exact h
theorem g148_0 (s:List (List Za)) (f:(List Za)->Bool):(idxI f s)<(s.length:Int):=by
 exact idxI_lt f s
theorem g148_1 (s:List (List Za)) (f:(List Za)->Bool):-1<=(idxI f s):=by
 (show -1<=idxI f s; unfold idxI; cases first (fun k=>f (s.getD k default)) s.length <;> simp only [oix] <;> omega)
theorem kc148a (s:List (List Za)) (f:(List Za)->Bool) (Qf:(List Za)->Prop) {K_:Prop} (p0_:∀ k:Nat,k<s.length->Qf (s.getD k default)) (k_:((idxI f s)<(s.length:Int))->(-1<=(idxI f s))->K_):(∀ k:Nat,k<s.length->Qf (s.getD k default))/\(Imp (.l 1 (eL 1 eStr) s) (.l 1 (eL 1 eStr) s))/\(fsQ58 Qf f=fsQ58 Qf f)/\K_:=⟨p0_,Imp.refl _,rfl,k_ (g148_0 s f) (g148_1 s f)⟩
abbrev kh148a (s:List (List Za)) (f:(List Za)->Bool) (Qf:(List Za)->Prop):Hint false Tryz.prog:=.call 148 (S148 (idxI f s) s f Qf) (oa148 s f Qf) none
def F102 (s:List (List Za)) (f:(List Za)->Bool):Bool :=
 decide ((idxI f s)>=0)
def S102 (R:Bool) (s:List (List Za)) (f:(List Za)->Bool) (Qf:(List Za)->Prop):Spec:=⟨[.r (.c (.l 1 (eL 1 eStr) s)),.fn (fsQ58 Qf f)],.v (.bool R),(∀ k:Nat,k<s.length->Qf (s.getD k default))⟩
theorem ok102 (s:List (List Za)) (f:(List Za)->Bool) (Qf:(List Za)->Prop):(S102 (F102 s f) s f Qf).ok Tryz.prog 102 false :=
 fnG_ok mixed (fn:=Tryz.f102) (ct:=.seqk [(0,0)] .no (.seq (.reg [(2,kh148a s f Qf)]) .no)) Tryz.func102 (fun (hpre0:∀ k:Nat,k<s.length->Qf (s.getD k default))=>kn s fun _=>kc148a s f Qf uu9 (fun gv1 gv2=>fiB (decide ((idxI f s)>=0)) (F102 s f) rfl)) uu3
theorem as102 (s:List (List Za)) (f:(List Za)->Bool):F102 s f=(s.any f):=by
 exact any_idx f s
theorem oa102 (s:List (List Za)) (f:(List Za)->Bool) (Qf:(List Za)->Prop):(S102 (s.any f) s f Qf).ok Tryz.prog 102 false:=by
 intro hp; have h:=ok102 s f Qf hp; rw [as102 s f] at h; exact h
def F53 (lines:List Za):Bool :=
 (!((linesL lines Zk).any (fun (x0:List Za)=>F104 x0)))
def S53 (lines:List Za):Spec:=⟨[.r (.c (.l 1 eStr lines))],.v (.bool (F53 lines)),F58 lines=0/\lines.length<=16/\(∀ k:Nat,(lines.getD k default).size<=1048576)⟩
theorem ok53 (lines:List Za):(S53 lines).ok Tryz.prog 53 false :=
 fnG_ok mixed (fn:=Tryz.f53) (ct:=.seqk [(0,0)] .no (.seq (.reg [(1,kh103af lines Zk),(2,.call 102 (S102 ((linesL lines Zk).any (fun (x0:List Za)=>F104 x0)) (linesL lines Zk) (fun (x0:List Za)=>F104 x0) (fun (x0:List Za)=>userP x0)) (oa102 (linesL lines Zk) (fun (x0:List Za)=>F104 x0) (fun (x0:List Za)=>userP x0)) (some ⟨true,104,fsQ58 (fun (x0:List Za)=>userP x0) (fun (x0:List Za)=>F104 x0),[],rfl,True,fun i=>ok_px (ok104 i)⟩))]) .no)) Tryz.func53 (fun (hp:F58 lines=0/\lines.length<=16/\(∀ k:Nat,(lines.getD k default).size<=1048576))=>have hpre0:=hp.1; have hpre1:=hp.2.1; have hpre2:=hp.2.2; kn lines fun _=>kc103a lines Zk uu0 uu9 uu0 (fun gv1=>ai (by exact user_at lines (by omega):∀ k:Nat,k<(linesL lines Zk).length->(fun (x0:List Za)=>userP x0) ((linesL lines Zk).getD k default)) (ai (Imp.refl (.l 1 (eL 1 eStr) (linesL lines Zk))) (ai (Eq.refl (fsQ58 (fun (x0:List Za)=>userP x0) (fun (x0:List Za)=>F104 x0))) (ai trivial (fiB (!((linesL lines Zk).any (fun (x0:List Za)=>F104 x0))) (F53 lines) rfl)))))) uu3
def F105_s0 (lines:List Za) (name:Za):(Int×Int)->Lp (Int×Int) Int:=fun (n,v11) =>
 bif (decide (v11<((linesL lines Zg).length:Int))) then (bif ((((linesL lines Zg).getD (Int.toNat v11) default).getD (Int.toNat 1) default).toList==name.toList) then (.next ((n+1),(v11+1))) else (.next (n,(v11+1)))) else (.done (n,v11))
def F105 (lines:List Za) (name:Za):Int :=
 (runL (F105_s0 lines name) ((Int.toNat (((linesL lines Zg).length:Int)-0))+1) (0,0)).fin (fun r=>r) (fun (n,v11)=>n)
abbrev lN105_0 (lines:List Za):Nat×(Int×Int):=(((Int.toNat (((linesL lines Zg).length:Int)-0))+1),(0,0))
abbrev lI105_0 (lines:List Za) (m39:Nat) (n:Int) (v11:Int):Prop:=Int.toNat (((linesL lines Zg).length:Int)-v11)<m39/\(0:Int)<=n/\(n:Int)<=v11/\(0:Int)<=n/\(0:Int)<=v11
abbrev lX105_0 (lines:List Za) (name:Za):Lp (Int×Int) Int:=LpX (F105_s0 lines name) (lN105_0 lines)
abbrev lJ105_0 (lines:List Za) (name:Za) (i:Nat×(Int×Int)):Prop:=LpJ (F105_s0 lines name) (lN105_0 lines) i (lI105_0 lines i.1 i.2.1 i.2.2)
abbrev lH105_0 (lines:List Za) (name:Za) (i:Nat×(Int×Int)) (m39:Nat) (n:Int) (v11:Int):Prop:=LpH (F105_s0 lines name) (lN105_0 lines) i m39 (n,v11) (lI105_0 lines (m39+1) n v11)
abbrev lE105_0 (lines:List Za) (name:Za) (n:Int) (v11:Int) (n_:Int) (v11_:Int) (K39:Prop):Prop:=(Rf (.string name))/\((.int .i64 n:Value)=.int .i64 n_)/\(Rf (.int .i64 ((linesL lines Zg).length:Int)))/\((.int .i64 v11:Value)=.int .i64 v11_)/\(Im (.l 1 (eL 1 eStr) (linesL lines Zg)))/\K39
theorem un105_0 (lines:List Za) (name:Za) (i:Nat×(Int×Int)) (h:lJ105_0 lines name i):lH105_0 lines name i (i.1-1) i.2.1 i.2.2:=⟨hd1 h.1 h.2.1,hd3 h.2.1,hd2 h.2.1,h.2.2⟩
theorem bk105_0 (lines:List Za) (name:Za) (i:Nat×(Int×Int)) (m39:Nat) (n:Int) (v11:Int) (hl:m39<i.1) (e:runL (F105_s0 lines name) m39 (n,v11)=lX105_0 lines name) (h:lI105_0 lines m39 n v11):∃ j:Nat×(Int×Int),lE105_0 lines name n v11 j.2.1 j.2.2 (lJ105_0 lines name j/\j.1<i.1):=⟨(m39,(n,v11)),rfl,rfl,rfl,rfl,Imp.refl _,⟨e,h⟩,hl⟩
theorem en105_0 (lines:List Za) (name:Za) (h:(0:Int)<=0/\(0:Int)<=0/\(0:Int)<=0/\(0:Int)<=0):lE105_0 lines name 0 0 0 0 (lJ105_0 lines name (lN105_0 lines)):=⟨rfl,rfl,rfl,rfl,Imp.refl _,rfl,Qr _,h⟩
def S105 (lines:List Za) (name:Za):Spec:=⟨[.r (.c (.l 1 eStr lines)),.r (.c (.v (.string name)))],.v (vI (F105 lines name)),F58 lines=0/\lines.length<=16/\(∀ k:Nat,(lines.getD k default).size<=1048576)⟩
theorem ok105 (lines:List Za) (name:Za):(S105 lines name).ok Tryz.prog 105 :=
 fnG_ok mixed (fn:=Tryz.f105) (ct:=.seqk [(0,0)] .no (.seq .no (.seq (.seqk [(9,0)] (.reg [(1,kh103a lines Zg)]) (.blk (.loop (ι:=Nat×(Int×Int)) (fun i=>(fun (n:Int) (v11:Int)=>(⟨[(1,some (.v (.string name))),(5,some (.v (vI n))),(9,some (.h 0 0)),(10,some (.v (vI ((linesL lines Zg).length:Int)))),(11,some (.v (vI v11)))],[(0,some (.own 0 (.l 1 (eL 1 eStr) (linesL lines Zg))))],1⟩:St)) i.2.1 i.2.2) (lJ105_0 lines name) (fun i=>i.1) (lN105_0 lines) (fun i=>(fun (n:Int) (v11:Int)=>(.seq .no (.seq (.cond .no .no) (.seq (.blk (.seq .no (.seq .no (.cond (.reg [(1,.bnd)]) .no)))) (.reg [(0,.bnd)]))))) i.2.1 i.2.2)))) (.seq .no .no)))) Tryz.func105 (fun (hp:F58 lines=0/\lines.length<=16/\(∀ k:Nat,(lines.getD k default).size<=1048576))=>have hpre0:=hp.1; have hpre1:=hp.2.1; have hpre2:=hp.2.2; kn lines fun _=>kc103a lines Zg uu0 uu9 uu0 (fun gv1=>kn (linesL lines Zg) fun _=>ai (en105_0 lines name uu39) (fun (i0:Nat×(Int×Int)) (hi0:lJ105_0 lines name i0)=>(fun (m0:Nat) (n:Int) (v11:Int) (hh0:lH105_0 lines name i0 m0 n v11)=>have hI0:=hh0.1; have hl0:=hh0.2.1; have _:=hh0.2.2.1; have _:=hh0.2.2.2; ifd (v11<((linesL lines Zg).length:Int)) (fun h3 _=>ai (uu8:0<=v11/\v11<((linesL lines Zg).length:Int)) (ai (by (have h9:=rule_at lines (by omega) (Int.toNat v11) (by omega); unfold ruleP at h9; omega):0<=(1:Int)/\(1:Int)<(((linesL lines Zg).getD (Int.toNat v11) default).length:Int)) (ifb ((((linesL lines Zg).getD (Int.toNat v11) default).getD (Int.toNat 1) default).toList==name.toList) (fun h4=>ai (iok (n+1) uu0) (ai (iok (v11+1) uu0) (bk105_0 lines name i0 m0 (n+1) (v11+1) hl0 (runL_next hI0 (condT h3 (condT h4 rfl))) uu27))) (fun h4=>ai (iok (v11+1) uu0) (bk105_0 lines name i0 m0 n (v11+1) hl0 (runL_next hI0 (condT h3 (condF h4 rfl))) uu27))))) (fun h3 _=>have hD0_5:lX105_0 lines name=Lp.done (n,v11):=runL_done hI0 (condF h3 rfl); fiI n (F105 lines name) (finD hD0_5 rfl))) (i0.1-1) i0.2.1 i0.2.2 (un105_0 lines name i0 hi0)))) uu3
theorem kc105 (lines:List Za) (name:Za) {K_:Prop} (p0_:F58 lines=0) (p1_:lines.length<=16) (p2_:∀ k:Nat,(lines.getD k default).size<=1048576) (k_:K_):(F58 lines=0/\lines.length<=16/\(∀ k:Nat,(lines.getD k default).size<=1048576))/\(Imp (.l 1 eStr lines) (.l 1 eStr lines))/\(Imp (.v (.string name)) (.v (.string name)))/\K_:=⟨⟨p0_,p1_,p2_⟩,Imp.refl _,Imp.refl _,k_⟩
abbrev kh105 (lines:List Za) (name:Za):Hint true Tryz.prog:=.call 105 (S105 lines name) (ok105 lines name) none
def F106 (w1:List Za) (p1:List Za):Bool :=
 decide ((F105 p1 (w1.getD (Int.toNat 1) default))>12)
def S106 (w1:List Za) (p1:List Za):Spec:=⟨[.r (.c (.l 1 eStr w1)),.rp ([.l 1 eStr p1])],.v (.bool (F106 w1 p1)),ruleP w1/\F58 p1=0/\p1.length<=16/\(∀ k:Nat,(p1.getD k default).size<=1048576)⟩
theorem ok106 (w1:List Za) (p1:List Za):(S106 w1 p1).ok Tryz.prog 106 :=
 fnG_ok mixed (fn:=Tryz.f106) (ct:=.seqk [(0,0)] .no (.seq (.reg [(4,kh105 p1 (w1.getD (Int.toNat 1) default))]) .no)) Tryz.func106 (fun (hp:ruleP w1/\F58 p1=0/\p1.length<=16/\(∀ k:Nat,(p1.getD k default).size<=1048576))=>have hpre0:=hp.1; have hpre1:=hp.2.1; have hpre2:=hp.2.2.1; have hpre3:=hp.2.2.2; kn w1 fun _=>ai (by (have h9:=hpre0; unfold ruleP at h9; omega):0<=(1:Int)/\(1:Int)<(w1.length:Int)) (kc105 p1 (w1.getD (Int.toNat 1) default) uu0 uu0 uu9 (fiB (decide ((F105 p1 (w1.getD (Int.toNat 1) default))>12)) (F106 w1 p1) rfl))) uu3
theorem kg105 {K_:Prop} (c_ b_:Bool) (lines:List Za) (name:Za) (p_:c_=b_->F58 lines=0/\lines.length<=16/\(∀ k:Nat,(lines.getD k default).size<=1048576)) (k_:K_):(c_=b_->F58 lines=0/\lines.length<=16/\(∀ k:Nat,(lines.getD k default).size<=1048576))/\(c_=b_->Imp (.l 1 eStr lines) (.l 1 eStr lines))/\(c_=b_->Imp (.v (.string name)) (.v (.string name)))/\K_:=⟨p_,fun _=>Imp.refl _,fun _=>Imp.refl _,k_⟩
abbrev kh105f (lines:List Za) (name:Za):Hint false Tryz.prog:=.call 105 (S105 lines name) ((ok105 lines name).to false) none
def F54_s0 (lines:List Za):Int->Lp Int Bool:=fun v8 =>
 bif (decide (v8<((linesL lines Ze).length:Int))) then (bif (bif decide ((((linesL lines Ze).getD (Int.toNat v8) default).length:Int)>4) then ((F105 lines (((linesL lines Ze).getD (Int.toNat v8) default).getD (Int.toNat 4) default))==0) else false) then (.ret true) else (.next (v8+1))) else (.done v8)
def F54 (lines:List Za):Bool :=
 (runL (F54_s0 lines) ((Int.toNat (((linesL lines Ze).length:Int)-0))+1) 0).fin (fun r=>r) (fun v8=>((linesL lines Zg).any (fun (x0:List Za)=>F106 x0 lines)))
abbrev lN54_0 (lines:List Za):Nat×Int:=(((Int.toNat (((linesL lines Ze).length:Int)-0))+1),0)
abbrev lI54_0 (lines:List Za) (m39:Nat) (v8:Int):Prop:=Int.toNat (((linesL lines Ze).length:Int)-v8)<m39/\(0:Int)<=v8
abbrev lX54_0 (lines:List Za):Lp Int Bool:=LpX (F54_s0 lines) (lN54_0 lines)
abbrev lJ54_0 (lines:List Za) (i:Nat×Int):Prop:=LpJ (F54_s0 lines) (lN54_0 lines) i (lI54_0 lines i.1 i.2)
abbrev lH54_0 (lines:List Za) (i:Nat×Int) (m39:Nat) (v8:Int):Prop:=LpH (F54_s0 lines) (lN54_0 lines) i m39 v8 (lI54_0 lines (m39+1) v8)
abbrev lE54_0 (lines:List Za) (v8:Int) (v8_:Int) (K39:Prop):Prop:=(Rf (.int .i64 ((linesL lines Ze).length:Int)))/\((.int .i64 v8:Value)=.int .i64 v8_)/\(Im (.l 1 eStr lines))/\(Im (.l 1 (eL 1 eStr) (linesL lines Ze)))/\K39
theorem un54_0 (lines:List Za) (i:Nat×Int) (h:lJ54_0 lines i):lH54_0 lines i (i.1-1) i.2:=⟨hd1 h.1 h.2.1,hd3 h.2.1,hd2 h.2.1,h.2.2⟩
theorem bk54_0 (lines:List Za) (i:Nat×Int) (m39:Nat) (v8:Int) (hl:m39<i.1) (e:runL (F54_s0 lines) m39 v8=lX54_0 lines) (h:lI54_0 lines m39 v8):∃ j:Nat×Int,lE54_0 lines v8 j.2 (lJ54_0 lines j/\j.1<i.1):=⟨(m39,v8),rfl,rfl,Imp.refl _,Imp.refl _,⟨e,h⟩,hl⟩
theorem en54_0 (lines:List Za) (h:(0:Int)<=0):lE54_0 lines 0 0 (lJ54_0 lines (lN54_0 lines)):=⟨rfl,rfl,Imp.refl _,Imp.refl _,rfl,Qr _,h⟩
def S54 (lines:List Za):Spec:=⟨[.r (.c (.l 1 eStr lines))],.v (.bool (F54 lines)),F58 lines=0/\lines.length<=16/\(∀ k:Nat,(lines.getD k default).size<=1048576)⟩
theorem ok54 (lines:List Za):(S54 lines).ok Tryz.prog 54 false :=
 fnG_ok mixed (fn:=Tryz.f54) (ct:=.seq .no (.seq (.seqk [(1,0),(6,0)] (.reg [(1,kh103af lines Ze)]) (.blk (.loop (ι:=Nat×Int) (fun i=>(fun (v8:Int)=>(⟨[(1,some (.p 0 0)),(6,some (.h 2 0)),(7,some (.v (vI ((linesL lines Ze).length:Int)))),(8,some (.v (vI v8)))],[(0,some (.box 26 [.h 1 0])),(1,some (.shr none (.l 1 eStr lines))),(2,some (.own 2 (.l 1 (eL 1 eStr) (linesL lines Ze))))],3⟩:St)) i.2) (lJ54_0 lines) (fun i=>i.1) (lN54_0 lines) (fun i=>(fun (v8:Int)=>(.seq .no (.seq (.cond .no .no) (.seq (.blk (.seq .no (.seq (.reg [(8,kh105f lines (((linesL lines Ze).getD (Int.toNat v8) default).getD (Int.toNat 4) default))]) (.cond (.seq .no .no) .no)))) (.reg [(0,.bnd)]))))) i.2)))) (.seq (.reg [(1,kh103af lines Zg),(3,.call 102 (S102 ((linesL lines Zg).any (fun (x0:List Za)=>F106 x0 lines)) (linesL lines Zg) (fun (x0:List Za)=>F106 x0 lines) (fun (x0:List Za)=>ruleP x0/\F58 lines=0/\lines.length<=16/\(∀ k:Nat,(lines.getD k default).size<=1048576))) (oa102 (linesL lines Zg) (fun (x0:List Za)=>F106 x0 lines) (fun (x0:List Za)=>ruleP x0/\F58 lines=0/\lines.length<=16/\(∀ k:Nat,(lines.getD k default).size<=1048576))) (some ⟨true,106,fsQ58 (fun (x0:List Za)=>ruleP x0/\F58 lines=0/\lines.length<=16/\(∀ k:Nat,(lines.getD k default).size<=1048576)) (fun (x0:List Za)=>F106 x0 lines),[.rp ([.l 1 eStr lines])],rfl,True,fun i=>ok_px (ok106 i lines)⟩))]) .no))) Tryz.func54 (fun (hp:F58 lines=0/\lines.length<=16/\(∀ k:Nat,(lines.getD k default).size<=1048576))=>have hpre0:=hp.1; have hpre1:=hp.2.1; have hpre2:=hp.2.2; kc103a lines Ze uu0 uu9 uu0 (fun gv1=>kn lines fun _=>kn (linesL lines Ze) fun _=>ai (en54_0 lines uu0) (fun (i0:Nat×Int) (hi0:lJ54_0 lines i0)=>(fun (m0:Nat) (v8:Int) (hh0:lH54_0 lines i0 m0 v8)=>have hI0:=hh0.1; have hl0:=hh0.2.1; have _:=hh0.2.2.1; have _:=hh0.2.2.2; ifd (v8<((linesL lines Ze).length:Int)) (fun h3 _=>ai (uu0:ib v8 (linesL lines Ze)) (ai (fun k4:(decide ((((linesL lines Ze).getD (Int.toNat v8) default).length:Int)>4))=true=>have _:(((linesL lines Ze).getD (Int.toNat v8) default).length:Int)>4:=Qd k4; (uu0:ib 4 ((linesL lines Ze).getD (Int.toNat v8) default))) (kg105 (decide ((((linesL lines Ze).getD (Int.toNat v8) default).length:Int)>4)) true lines (((linesL lines Ze).getD (Int.toNat v8) default).getD (Int.toNat 4) default) (fun k5=>have _:(((linesL lines Ze).getD (Int.toNat v8) default).length:Int)>4:=Qd k5; ⟨uu0,uu0,uu9⟩) (ifb (bif decide ((((linesL lines Ze).getD (Int.toNat v8) default).length:Int)>4) then ((F105 lines (((linesL lines Ze).getD (Int.toNat v8) default).getD (Int.toNat 4) default))==0) else false) (fun h6=>have _:(((linesL lines Ze).getD (Int.toNat v8) default).length:Int)>4:=Qd (andT1 h6); have _:(F105 lines (((linesL lines Ze).getD (Int.toNat v8) default).getD (Int.toNat 4) default))=0:=eq_of_beq (andT2 h6); fiB true (F54 lines) (finR (runL_ret hI0 (condT h3 (condT h6 rfl))) rfl)) (fun h6=>ai (iok (v8+1) uu0) (bk54_0 lines i0 m0 (v8+1) hl0 (runL_next hI0 (condT h3 (condF h6 rfl))) uu6)))))) (fun h3 _=>have hD0_7:lX54_0 lines=Lp.done v8:=runL_done hI0 (condF h3 rfl); kc103a lines Zg uu0 uu9 uu0 (fun gv8=>ai (by exact fun k hk=>⟨rule_at lines (by omega) k hk,by omega,by omega,by assumption⟩:∀ k:Nat,k<(linesL lines Zg).length->(fun (x0:List Za)=>ruleP x0/\F58 lines=0/\lines.length<=16/\(∀ k:Nat,(lines.getD k default).size<=1048576)) ((linesL lines Zg).getD k default)) (ai (Imp.refl (.l 1 (eL 1 eStr) (linesL lines Zg))) (ai (Eq.refl (fsQ58 (fun (x0:List Za)=>ruleP x0/\F58 lines=0/\lines.length<=16/\(∀ k:Nat,(lines.getD k default).size<=1048576)) (fun (x0:List Za)=>F106 x0 lines))) (ai trivial (ai (Imps.refl [.l 1 eStr lines]) (fiB ((linesL lines Zg).any (fun (x0:List Za)=>F106 x0 lines)) (F54 lines) (finD hD0_7 rfl))))))))) (i0.1-1) i0.2 (un54_0 lines i0 hi0)))) uu3
structure l52Cut where
 w:List Za
 deriving DecidableEq,Inhabited
def el52Cut (x:l52Cut):List Dat:=[.l 1 eStr x.w]
def F59_s0 (lines:List Za):(List l52Cut×Int)->Lp (List l52Cut×Int) (List l52Cut):=fun (out,i40) =>
 bif (decide (i40<(lines.length:Int))) then (.next ((out++[(⟨(F11 (lines.getD (Int.toNat i40) default)).1⟩:l52Cut)]),(i40+1))) else (.done (out,i40))
def F59 (lines:List Za):List l52Cut :=
 (runL (F59_s0 lines) ((Int.toNat ((lines.length:Int)-0))+1) (([]:List l52Cut),0)).fin (fun r=>r) (fun (out,i40)=>out)
abbrev lN59_0 (lines:List Za):Nat×(List l52Cut×Int):=(((Int.toNat ((lines.length:Int)-0))+1),(([]:List l52Cut),0))
abbrev lI59_0 (lines:List Za) (m39:Nat) (out:List l52Cut) (i40:Int):Prop:=Int.toNat ((lines.length:Int)-i40)<m39/\(out.length:Int)<=i40/\(0:Int)<=i40
abbrev lX59_0 (lines:List Za):Lp (List l52Cut×Int) (List l52Cut):=LpX (F59_s0 lines) (lN59_0 lines)
abbrev lJ59_0 (lines:List Za) (i:Nat×(List l52Cut×Int)):Prop:=LpJ (F59_s0 lines) (lN59_0 lines) i (lI59_0 lines i.1 i.2.1 i.2.2)
abbrev lH59_0 (lines:List Za) (i:Nat×(List l52Cut×Int)) (m39:Nat) (out:List l52Cut) (i40:Int):Prop:=LpH (F59_s0 lines) (lN59_0 lines) i m39 (out,i40) (lI59_0 lines (m39+1) out i40)
abbrev lE59_0 (lines:List Za) (out:List l52Cut) (i40:Int) (out_:List l52Cut) (i40_:Int) (K39:Prop):Prop:=((.int .i64 i40:Value)=.int .i64 i40_)/\(Im (.l 1 eStr lines))/\(Imp (.l 1 el52Cut out) (.l 1 el52Cut out_))/\K39
theorem un59_0 (lines:List Za) (i:Nat×(List l52Cut×Int)) (h:lJ59_0 lines i):lH59_0 lines i (i.1-1) i.2.1 i.2.2:=⟨hd1 h.1 h.2.1,hd3 h.2.1,hd2 h.2.1,h.2.2⟩
theorem bk59_0 (lines:List Za) (i:Nat×(List l52Cut×Int)) (m39:Nat) (out:List l52Cut) (i40:Int) (hl:m39<i.1) (e:runL (F59_s0 lines) m39 (out,i40)=lX59_0 lines) (h:lI59_0 lines m39 out i40):∃ j:Nat×(List l52Cut×Int),lE59_0 lines out i40 j.2.1 j.2.2 (lJ59_0 lines j/\j.1<i.1):=⟨(m39,(out,i40)),rfl,Imp.refl _,Imp.refl _,⟨e,h⟩,hl⟩
theorem en59_0 (lines:List Za) (h:(([]:List l52Cut).length:Int)<=0/\(0:Int)<=0):lE59_0 lines ([]:List l52Cut) 0 ([]:List l52Cut) 0 (lJ59_0 lines (lN59_0 lines)):=⟨rfl,Imp.refl _,Imp.refl _,rfl,Qr _,h⟩
theorem fi59 (lines:List Za) (r:List l52Cut) (hF:r=(F59 lines)):(Imp (.l 1 el52Cut r) (.l 1 el52Cut (F59 lines)))/\True:=by cases hF; exact ⟨Imp.refl _,trivial⟩
def S59 (R:List l52Cut) (lines:List Za):Spec:=⟨[.r (.c (.l 1 eStr lines))],.ow (.l 1 el52Cut R),lines.length<=16/\(∀ k:Nat,(lines.getD k default).size<=1048576)⟩
theorem ok59 (lines:List Za):(S59 (F59 lines) lines).ok Tryz.prog 59 :=
 fnG_ok mixed (fn:=Tryz.f59) (ct:=.seqk [(0,0)] .no (.seq (.reg [(0,.dat (.l 1 el52Cut ([]:List l52Cut)))]) (.seq (.seqk [(0,0),(3,0)] .no (.blk (.loop (ι:=Nat×(List l52Cut×Int)) (fun i=>(fun (out:List l52Cut) (i40:Int)=>(⟨[(0,some (.h 0 0)),(3,some (.h 1 0)),(4,some (.v (vI i40)))],[(0,some (.shr none (.l 1 eStr lines))),(1,some (.own 1 (.l 1 el52Cut out)))],2⟩:St)) i.2.1 i.2.2) (lJ59_0 lines) (fun i=>i.1) (lN59_0 lines) (fun i=>(fun (out:List l52Cut) (i40:Int)=>(.seq (.seq .no (.cond .no .no)) (.seq (.blk (.seq (.reg [(4,kh11 (lines.getD (Int.toNat i40) default))]) (.reg [(4,.dat (.l 1 el52Cut (out++[(⟨(F11 (lines.getD (Int.toNat i40) default)).1⟩:l52Cut)])))]))) (.reg [(1,.bnd)])))) i.2.1 i.2.2)))) (.seq .no .no)))) Tryz.func59 (fun (hp:lines.length<=16/\(∀ k:Nat,(lines.getD k default).size<=1048576))=>have hpre0:=hp.1; have hpre1:=hp.2; kn lines fun _=>ai (bokr 1 el52Cut ([]:List l52Cut) fun _=>rfl) (kn lines fun _=>kn ([]:List l52Cut) fun _=>ai (en59_0 lines (by refine ⟨?_,?_⟩ <;> (simp only [lens,ib] at*<;> omega))) (fun (i0:Nat×(List l52Cut×Int)) (hi0:lJ59_0 lines i0)=>(fun (m0:Nat) (out:List l52Cut) (i40:Int) (hh0:lH59_0 lines i0 m0 out i40)=>have hI0:=hh0.1; have hl0:=hh0.2.1; have _:=hh0.2.2.1; have _:=hh0.2.2.2; ifd (i40<(lines.length:Int)) (fun h2 _=>ai (uu0:ib i40 lines) (kc11 (lines.getD (Int.toNat i40) default) (by exact hpre1 _) (fun gv3 gv4=>ai (appr 1 el52Cut out [(⟨(F11 (lines.getD (Int.toNat i40) default)).1⟩:l52Cut)] fun _=>rfl) (ai (uu17:(out++[(⟨(F11 (lines.getD (Int.toNat i40) default)).1⟩:l52Cut)]).length*24<=140737488355328) (ai (iok (i40+1) uu0) (bk59_0 lines i0 m0 (out++[(⟨(F11 (lines.getD (Int.toNat i40) default)).1⟩:l52Cut)]) (i40+1) hl0 (runL_next hI0 (condT h2 rfl)) (by refine ⟨?_,?_,?_⟩ <;> (simp only [lens,ib] at*<;> omega)))))))) (fun h2 _=>have hD0_5:lX59_0 lines=Lp.done (out,i40):=runL_done hI0 (condF h2 rfl); fi59 lines out (finD hD0_5 rfl))) (i0.1-1) i0.2.1 i0.2.2 (un59_0 lines i0 hi0)))) uu3
def F117 (c:l52Cut) (k:Int):Za :=
 bif (decide (k<(c.w.length:Int))) then (c.w.getD (Int.toNat k) default) else Zf
def S117 (c:l52Cut) (k:Int):Spec:=⟨[.r (.g (el52Cut c)),.r (.c (.v (vI k)))],.v (.string (F117 c k)),0<=k⟩
theorem ok117 (c:l52Cut) (k:Int):(S117 c k).ok Tryz.prog 117 :=
 fnG_ok mixed (fn:=Tryz.f117) (ct:=.seq .no (.seq (.seq .no (.cond (.seq .no .no) .no)) (.seq .no .no))) Tryz.func117 (fun (hpre0:0<=k)=>ifd (k<(c.w.length:Int)) (fun h1 _=>ai (uu0:ib k c.w) (fiS (c.w.getD (Int.toNat k) default) (F117 c k) (condT h1 rfl))) (fun h1 _=>fiS Zf (F117 c k) (condF h1 rfl))) uu3
theorem netParse_b (s:Za):0<=(F114 s).1.Len/\(F114 s).1.Len<=16/\0<=(F114 s).1.Addr/\(F114 s).1.Addr<=65535:=by
 rw [implPfx_eq]
 cases h:pfxL s.data.toList with
 | none=>exact ⟨by decide,by decide,by decide,by decide⟩
 | some p =>
  obtain ⟨a,n⟩:=p
  have:=pfx2_nn h
  show 0<=n/\n<=16/\0<=a/\a<=65535
  omega
def portsL (lines:List Za):List NetPrefix:=(linesL lines Ze).map fun w=>(F114 (w.getD 2 default)).1
theorem as107 (lines:List Za):F107 lines=(portsL lines):=by
 unfold F107
 have:=fold_loop0 (linesL lines Ze) (fun (s:List NetPrefix) w=>s++[(F114 (w.getD 2 default)).1]) (fun s i=>(s,i)) (F107_s0 lines) (fun i s hi=>by
  simp only [F107_s0,ltD hi,Qc,nn]; rfl) (fun s=>by simp only [F107_s0,geD,Qb]) (fun r=>r) (fun (out,v12)=>out) []
 refine this.trans ?_
 rw [foldl_map',R0]; rfl
theorem ports_bd (lines:List Za):∀ p∈portsL lines,0<=p.Len/\p.Len<=16/\0<=p.Addr/\p.Addr<=65535:=fun p hp=>by
 obtain ⟨w,_,rfl⟩:=Sr.1 hp
 exact netParse_b _
theorem ports_len (lines:List Za):∀ k:Nat,0<=((portsL lines).getD k default).Len/\((portsL lines).getD k default).Len<=16:=fun k=>by
 by_cases hk:k<(portsL lines).length
 ·have:=ports_bd lines _ (getD_mem _ hk); omega
 ·rw [getD_ge _ uu0]; exact ⟨by decide,by decide⟩
theorem ports_lenT (lines:List Za) (n k:Nat):0<=(((portsL lines).take n).getD k default).Len/\(((portsL lines).take n).getD k default).Len<=16:=by
 by_cases hk:k<((portsL lines).take n).length
 ·have:=ports_bd lines _ (Ta (getD_mem _ hk)); omega
 ·rw [getD_ge _ uu0]; exact ⟨by decide,by decide⟩
theorem sz_nil:∀ k:Nat,(([]:List Za).getD k default).size<=1048576:=fun k=>Re _
theorem sz_app {a:List Za} {x:Za} (h:∀ k:Nat,(a.getD k default).size<=1048576) (hx:x.size<=1048576):∀ k:Nat,((a++[x]).getD k default).size<=1048576:=fun k=>by
 rw [Qe,List.getElem?_append]
 split
 ·rw [<- Qe]; exact h k
 ·cases hk:k-a.length with
  | zero=>exact hx
  | succ j=>exact Re _
theorem door_atT (lines:List Za) (h:F58 lines=0) (n k:Nat) (hk:k<((linesL lines Zb).take n).length):doorP (((linesL lines Zb).take n).getD k default):=by
 rw [Rm] at hk
 have:=door_at lines h k uu0
 rw [Qe,Rb,if_pos uu0,<- Qe]
 exact this
theorem as59 (lines:List Za):F59 lines=(lines.map (fun l=>(⟨(F11 l).1⟩:l52Cut))):=by
 unfold F59
 have:=fold_loop0 lines (fun (s:List l52Cut) l=>s++[(⟨(F11 l).1⟩:l52Cut)]) (fun s i=>(s,i)) (F59_s0 lines) (fun i s hi=>by
  simp only [F59_s0,ltD hi,Qc,nn]; rfl) (fun s=>by simp only [F59_s0,geD,Qb]) (fun r=>r) (fun (out,i40)=>out) []
 refine this.trans ?_
 rw [foldl_map',R0]
theorem at_sz1 {c:l52Cut} (h:∀ j:Nat,(c.w.getD j default).size<=1048576) (k:Int):(F117 c k).size<=1048576:=by
 unfold F117
 cases decide (k<(c.w.length:Int)) with
 | true=>exact h _
 | false=>exact Re _
theorem at_sz (all:List l52Cut) (h:∀ k j:Nat,((all.getD k default).w.getD j default).size<=1048576) (i:Nat) (k:Int):(F117 (all.getD i default) k).size<=1048576:=at_sz1 (h i) k
def T107 (R:List NetPrefix) (lines:List Za):Spec:=⟨(S107 R lines).args,(S107 R lines).res,F58 lines=0/\lines.length<=16/\(∀ k:Nat,(lines.getD k default).size<=1048576)⟩
theorem oa107 (lines:List Za):(T107 (portsL lines) lines).ok Tryz.prog 107 false:=by
 intro hp; have h:=ok107 lines hp; rw [as107 lines] at h; exact h
def T59 (R:List l52Cut) (lines:List Za):Spec:=⟨(S59 R lines).args,(S59 R lines).res,lines.length<=16/\(∀ k:Nat,(lines.getD k default).size<=1048576)⟩
theorem oa59 (lines:List Za):(T59 (lines.map (fun l=>(⟨(F11 l).1⟩:l52Cut))) lines).ok Tryz.prog 59:=by
 intro hp; have h:=ok59 lines hp; rw [as59 lines] at h; exact h
def F151 (p:NetPrefix):Int :=
 (IntKind.i64.wrap ((IntKind.i64.wrap (p.Addr+(F179 p)))-1))
def S151 (p:NetPrefix):Spec:=⟨[.r (.g (eNetPrefix p))],.v (vI (F151 p)),0<=p.Len/\p.Len<=16⟩
theorem ok151 (p:NetPrefix):(S151 p).ok Tryz.prog 151 :=
 fnG_ok mixed (fn:=Tryz.f151) (ct:=.seq .no (.seq (.reg [(3,kh179 p)]) .no)) Tryz.func151 (fun (hp:0<=p.Len/\p.Len<=16)=>have hpre0:=hp.1; have hpre1:=hp.2; kc179 p uu0 uu0 uu0 uu0 (fun gv1 gv2=>fiI (IntKind.i64.wrap ((IntKind.i64.wrap (p.Addr+(F179 p)))-1)) (F151 p) rfl)) uu3
theorem kc151 (p:NetPrefix) {K_:Prop} (p0_:0<=p.Len) (p1_:p.Len<=16) (k_:K_):(0<=p.Len/\p.Len<=16)/\(Imps (eNetPrefix p) (eNetPrefix p))/\K_:=⟨⟨p0_,p1_⟩,Imps.refl _,k_⟩
abbrev kh151 (p:NetPrefix):Hint true Tryz.prog:=.call 151 (S151 p) (ok151 p) none
def F113 (p:NetPrefix) (addr:Int):Bool :=
 (decide (p.Addr<=addr/\addr<=(F151 p)))
def S113 (p:NetPrefix) (addr:Int):Spec:=⟨[.r (.g (eNetPrefix p)),.r (.c (.v (vI addr)))],.v (.bool (F113 p addr)),0<=p.Len/\p.Len<=16⟩
theorem ok113 (p:NetPrefix) (addr:Int):(S113 p addr).ok Tryz.prog 113 :=
 fnG_ok mixed (fn:=Tryz.f113) (ct:=.seq .no (.seq (.reg [(4,kh151 p),(5,kh39a addr p.Addr (F151 p))]) .no)) Tryz.func113 (fun (hp:0<=p.Len/\p.Len<=16)=>have hpre0:=hp.1; have hpre1:=hp.2; kc151 p uu0 uu0 (kc39a addr p.Addr (F151 p) (fiB (decide (p.Addr<=addr/\addr<=(F151 p))) (F113 p addr) rfl))) uu3
theorem kc113 (p:NetPrefix) (addr:Int) {K_:Prop} (p0_:0<=p.Len) (p1_:p.Len<=16) (k_:K_):(0<=p.Len/\p.Len<=16)/\(Imps (eNetPrefix p) (eNetPrefix p))/\(Imp (.v (vI addr)) (.v (vI addr)))/\K_:=⟨⟨p0_,p1_⟩,Imps.refl _,Imp.refl _,k_⟩
theorem kg113 {K_:Prop} (c_ b_:Bool) (p:NetPrefix) (addr:Int) (p_:c_=b_->0<=p.Len/\p.Len<=16) (k_:K_):(c_=b_->0<=p.Len/\p.Len<=16)/\(c_=b_->Imps (eNetPrefix p) (eNetPrefix p))/\(c_=b_->Imp (.v (vI addr)) (.v (vI addr)))/\K_:=⟨p_,fun _=>Imps.refl _,fun _=>Imp.refl _,k_⟩
abbrev kh113 (p:NetPrefix) (addr:Int):Hint true Tryz.prog:=.call 113 (S113 p addr) (ok113 p addr) none
def F108 (p:NetPrefix) (q:NetPrefix):Bool :=
 (bif decide (q.Len<=p.Len) then (F113 q p.Addr) else false)
def S108 (p:NetPrefix) (q:NetPrefix):Spec:=⟨[.r (.g (eNetPrefix p)),.r (.g (eNetPrefix q))],.v (.bool (F108 p q)),0<=q.Len/\q.Len<=16⟩
theorem ok108 (p:NetPrefix) (q:NetPrefix):(S108 p q).ok Tryz.prog 108 :=
 fnG_ok mixed (fn:=Tryz.f108) (ct:=.seq .no (.seq (.reg [(9,kh113 q p.Addr)]) .no)) Tryz.func108 (fun (hp:0<=q.Len/\q.Len<=16)=>have hpre0:=hp.1; have hpre1:=hp.2; kg113 (decide (q.Len<=p.Len)) true q p.Addr (fun k1=>have _:=Qd k1; ⟨uu0,uu0⟩) (fiB (bif decide (q.Len<=p.Len) then (F113 q p.Addr) else false) (F108 p q) rfl)) uu3
theorem kc107a (lines:List Za) {K_:Prop} (p0_:F58 lines=0) (p1_:lines.length<=16) (p2_:∀ k:Nat,(lines.getD k default).size<=1048576) (k_:K_):(F58 lines=0/\lines.length<=16/\(∀ k:Nat,(lines.getD k default).size<=1048576))/\(Imp (.l 1 eStr lines) (.l 1 eStr lines))/\K_:=⟨⟨p0_,p1_,p2_⟩,Imp.refl _,k_⟩
abbrev kh107a (lines:List Za):Hint false Tryz.prog:=.call 107 (T107 (portsL lines) lines) (oa107 lines) none
theorem kc108 (p:NetPrefix) (q:NetPrefix) {K_:Prop} (p0_:0<=q.Len) (p1_:q.Len<=16) (k_:K_):(0<=q.Len/\q.Len<=16)/\(Imps (eNetPrefix p) (eNetPrefix p))/\(Imps (eNetPrefix q) (eNetPrefix q))/\K_:=⟨⟨p0_,p1_⟩,Imps.refl _,Imps.refl _,k_⟩
abbrev kh108f (p:NetPrefix) (q:NetPrefix):Hint false Tryz.prog:=.call 108 (S108 p q) ((ok108 p q).to false) none
theorem kg108 {K_:Prop} (c_ b_:Bool) (p:NetPrefix) (q:NetPrefix) (p_:c_=b_->0<=q.Len/\q.Len<=16) (k_:K_):(c_=b_->0<=q.Len/\q.Len<=16)/\(c_=b_->Imps (eNetPrefix p) (eNetPrefix p))/\(c_=b_->Imps (eNetPrefix q) (eNetPrefix q))/\K_:=⟨p_,fun _=>Imps.refl _,fun _=>Imps.refl _,k_⟩
def F55_s1 (lines:List Za) (v12:Int):Int->Lp Int Bool:=fun v21 =>
 bif (decide (v21<(((portsL lines).take (Int.toNat v12)).length:Int))) then (bif (bif (F108 ((portsL lines).getD (Int.toNat v12) default) (((portsL lines).take (Int.toNat v12)).getD (Int.toNat v21) default)) then true else (F108 (((portsL lines).take (Int.toNat v12)).getD (Int.toNat v21) default) ((portsL lines).getD (Int.toNat v12) default))) then (.ret true) else (.next (v21+1))) else (.done v21)
def F55_s0 (lines:List Za):Int->Lp Int Bool:=fun v12 =>
 bif (decide (v12<((portsL lines).length:Int))) then ((runL (F55_s1 lines v12) ((Int.toNat ((((portsL lines).take (Int.toNat v12)).length:Int)-0))+1) 0).fin Lp.ret (fun v21=>.next (v12+1))) else (.done v12)
def F55 (lines:List Za):Bool :=
 (runL (F55_s0 lines) ((Int.toNat (((portsL lines).length:Int)-0))+1) 0).fin (fun r=>r) (fun v12=>false)
abbrev lN55_1 (lines:List Za) (v12:Int):Nat×Int:=(((Int.toNat ((((portsL lines).take (Int.toNat v12)).length:Int)-0))+1),0)
abbrev lI55_1 (lines:List Za) (v12:Int) (m39:Nat) (v21:Int):Prop:=Int.toNat ((((portsL lines).take (Int.toNat v12)).length:Int)-v21)<m39/\(0:Int)<=v21
abbrev lX55_1 (lines:List Za) (v12:Int):Lp Int Bool:=LpX (F55_s1 lines v12) (lN55_1 lines v12)
abbrev lJ55_1 (lines:List Za) (v12:Int) (i:Nat×Int):Prop:=LpJ (F55_s1 lines v12) (lN55_1 lines v12) i (lI55_1 lines v12 i.1 i.2)
abbrev lH55_1 (lines:List Za) (v12:Int) (i:Nat×Int) (m39:Nat) (v21:Int):Prop:=LpH (F55_s1 lines v12) (lN55_1 lines v12) i m39 v21 (lI55_1 lines v12 (m39+1) v21)
abbrev lE55_1 (lines:List Za) (v12:Int) (v21:Int) (v21_:Int) (K39:Prop):Prop:=(Rf (.int .i64 ((portsL lines).length:Int)))/\(Rf (.int .i64 v12))/\(Rf (.int .i64 (((portsL lines).take (Int.toNat v12)).length:Int)))/\((.int .i64 v21:Value)=.int .i64 v21_)/\(Im (.l 2 eNetPrefix (portsL lines)))/\(Rf (.int .i64 ((portsL lines).getD (Int.toNat v12) default).Addr))/\(Rf (.int .i64 ((portsL lines).getD (Int.toNat v12) default).Len))/\(Im (.l 2 eNetPrefix ((portsL lines).take (Int.toNat v12))))/\K39
theorem un55_1 (lines:List Za) (v12:Int) (i:Nat×Int) (h:lJ55_1 lines v12 i):lH55_1 lines v12 i (i.1-1) i.2:=⟨hd1 h.1 h.2.1,hd3 h.2.1,hd2 h.2.1,h.2.2⟩
theorem bk55_1 (lines:List Za) (v12:Int) (i:Nat×Int) (m39:Nat) (v21:Int) (hl:m39<i.1) (e:runL (F55_s1 lines v12) m39 v21=lX55_1 lines v12) (h:lI55_1 lines v12 m39 v21):∃ j:Nat×Int,lE55_1 lines v12 v21 j.2 (lJ55_1 lines v12 j/\j.1<i.1):=⟨(m39,v21),rfl,rfl,rfl,rfl,Imp.refl _,rfl,rfl,Imp.refl _,⟨e,h⟩,hl⟩
theorem en55_1 (lines:List Za) (v12:Int) (h:(0:Int)<=0):lE55_1 lines v12 0 0 (lJ55_1 lines v12 (lN55_1 lines v12)):=⟨rfl,rfl,rfl,rfl,Imp.refl _,rfl,rfl,Imp.refl _,rfl,Qr _,h⟩
abbrev lN55_0 (lines:List Za):Nat×Int:=(((Int.toNat (((portsL lines).length:Int)-0))+1),0)
abbrev lI55_0 (lines:List Za) (m39:Nat) (v12:Int):Prop:=Int.toNat (((portsL lines).length:Int)-v12)<m39/\(0:Int)<=v12
abbrev lX55_0 (lines:List Za):Lp Int Bool:=LpX (F55_s0 lines) (lN55_0 lines)
abbrev lJ55_0 (lines:List Za) (i:Nat×Int):Prop:=LpJ (F55_s0 lines) (lN55_0 lines) i (lI55_0 lines i.1 i.2)
abbrev lH55_0 (lines:List Za) (i:Nat×Int) (m39:Nat) (v12:Int):Prop:=LpH (F55_s0 lines) (lN55_0 lines) i m39 v12 (lI55_0 lines (m39+1) v12)
abbrev lE55_0 (lines:List Za) (v12:Int) (v12_:Int) (K39:Prop):Prop:=(Rf (.int .i64 ((portsL lines).length:Int)))/\((.int .i64 v12:Value)=.int .i64 v12_)/\(Im (.l 2 eNetPrefix (portsL lines)))/\K39
theorem un55_0 (lines:List Za) (i:Nat×Int) (h:lJ55_0 lines i):lH55_0 lines i (i.1-1) i.2:=⟨hd1 h.1 h.2.1,hd3 h.2.1,hd2 h.2.1,h.2.2⟩
theorem bk55_0 (lines:List Za) (i:Nat×Int) (m39:Nat) (v12:Int) (hl:m39<i.1) (e:runL (F55_s0 lines) m39 v12=lX55_0 lines) (h:lI55_0 lines m39 v12):∃ j:Nat×Int,lE55_0 lines v12 j.2 (lJ55_0 lines j/\j.1<i.1):=⟨(m39,v12),rfl,rfl,Imp.refl _,⟨e,h⟩,hl⟩
theorem en55_0 (lines:List Za) (h:(0:Int)<=0):lE55_0 lines 0 0 (lJ55_0 lines (lN55_0 lines)):=⟨rfl,rfl,Imp.refl _,rfl,Qr _,h⟩
def S55 (lines:List Za):Spec:=⟨[.r (.c (.l 1 eStr lines))],.v (.bool (F55 lines)),F58 lines=0/\lines.length<=16/\(∀ k:Nat,(lines.getD k default).size<=1048576)⟩
abbrev q55_1 (lines:List Za) (v12:Int) (v21:Int):=(((portsL lines).take (Int.toNat v12)).getD (Int.toNat v21) default)
abbrev q55_2 (lines:List Za) (v12:Int):=((portsL lines).getD (Int.toNat v12) default)
theorem ok55 (lines:List Za):(S55 lines).ok Tryz.prog 55 false :=
 fnG_ok mixed (fn:=Tryz.f55) (ct:=.seqk [(0,0)] .no (.seq (.reg [(1,kh107a lines)]) (.seq (.seqk [(3,0),(10,0)] .no (.blk (.loop (ι:=Nat×Int) (fun i=>(fun (v12:Int)=>(⟨[(3,some (.h 0 0)),(10,some (.h 0 0)),(11,some (.v (vI ((portsL lines).length:Int)))),(12,some (.v (vI v12)))],[(0,some (.own 0 (.l 2 eNetPrefix (portsL lines))))],1⟩:St)) i.2) (lJ55_0 lines) (fun i=>i.1) (lN55_0 lines) (fun i=>(fun (v12:Int)=>(.seq .no (.seq (.cond .no .no) (.seq (.blk (.seq .no (.seqk [(19,0)] .no (.blk (.loop (ι:=Nat×Int) (fun i=>(fun (v21:Int)=>(⟨[(3,some (.h 0 0)),(5,some (.p 1 0)),(10,some (.h 0 0)),(11,some (.v (vI ((portsL lines).length:Int)))),(12,some (.v (vI v12))),(19,some (.h 2 0)),(20,some (.v (vI (((portsL lines).take (Int.toNat v12)).length:Int)))),(21,some (.v (vI v21)))],[(0,some (.own 0 (.l 2 eNetPrefix (portsL lines)))),(1,some (.box 110 [.v (vI (q55_2 lines v12).Addr),.v (vI (q55_2 lines v12).Len)])),(2,some (.shr (some (0,0)) (.l 2 eNetPrefix ((portsL lines).take (Int.toNat v12)))))],3⟩:St)) i.2) (lJ55_1 lines v12) (fun i=>i.1) (lN55_1 lines v12) (fun i=>(fun (v21:Int)=>(.seq .no (.seq (.cond .no .no) (.seq (.blk (.seq .no (.seq (.reg [(2,kh108f (q55_2 lines v12) (q55_1 lines v12 v21)),(6,kh108f (q55_1 lines v12 v21) (q55_2 lines v12))]) (.cond (.seq .no .no) .no)))) (.reg [(0,.bnd)]))))) i.2)))))) (.reg [(0,.bnd)]))))) i.2)))) (.seq .no .no)))) Tryz.func55 (fun (hp:F58 lines=0/\lines.length<=16/\(∀ k:Nat,(lines.getD k default).size<=1048576))=>have hpre0:=hp.1; have hpre1:=hp.2.1; have hpre2:=hp.2.2; kn lines fun _=>kc107a lines uu2 uu2 uu46 (kn (portsL lines) fun _=>kn (portsL lines) fun _=>ai (en55_0 lines uu2) (fun (i0:Nat×Int) (hi0:lJ55_0 lines i0)=>(fun (m0:Nat) (v12:Int) (hh0:lH55_0 lines i0 m0 v12)=>have hI0:=hh0.1; have hl0:=hh0.2.1; have _:=hh0.2.2.1; have _:=hh0.2.2.2; ifd (v12<((portsL lines).length:Int)) (fun h2 _=>ai (uu2:ib v12 (portsL lines)) (ai (uu2:0<=(0:Int)/\(0:Int)<=v12/\v12<=((portsL lines).length:Int)) (kn ((portsL lines).take (Int.toNat v12)) fun _=>ai (en55_1 lines v12 uu2) (fun (i1:Nat×Int) (hi1:lJ55_1 lines v12 i1)=>(fun (m1:Nat) (v21:Int) (hh1:lH55_1 lines v12 i1 m1 v21)=>have hI1:=hh1.1; have hl1:=hh1.2.1; have _:=hh1.2.2.1; have _:=hh1.2.2.2; ifd (v21<(((portsL lines).take (Int.toNat v12)).length:Int)) (fun h4 _=>ai (uu2:ib v21 ((portsL lines).take (Int.toNat v12))) (kc108 (q55_2 lines v12) (q55_1 lines v12 v21) uu47 uu47 (kg108 (F108 (q55_2 lines v12) (q55_1 lines v12 v21)) false (q55_1 lines v12 v21) (q55_2 lines v12) (fun k5=>⟨uu47,uu47⟩) (ifb (bif (F108 (q55_2 lines v12) (q55_1 lines v12 v21)) then true else (F108 (q55_1 lines v12 v21) (q55_2 lines v12))) (fun h6=>fiB true (F55 lines) (finR (runL_ret hI0 (condT h2 (finR (runL_ret hI1 (condT h4 (condT h6 rfl))) rfl))) rfl)) (fun h6=>ai (iok (v21+1) uu2) (bk55_1 lines v12 i1 m1 (v21+1) hl1 (runL_next hI1 (condT h4 (condF h6 rfl))) uu20)))))) (fun h4 _=>have hD1_7:lX55_1 lines v12=Lp.done v21:=runL_done hI1 (condF h4 rfl); ai (iok (v12+1) uu2) (bk55_0 lines i0 m0 (v12+1) hl0 (runL_next hI0 (condT h2 (finD hD1_7 rfl))) uu20))) (i1.1-1) i1.2 (un55_1 lines v12 i1 hi1))))) (fun h2 _=>have hD0_8:lX55_0 lines=Lp.done v12:=runL_done hI0 (condF h2 rfl); fiB false (F55 lines) (finD hD0_8 rfl))) (i0.1-1) i0.2 (un55_0 lines i0 hi0)))) uu3
def F112 (p:NetPrefix) (p1:Int):Bool :=
 (bif (F113 p p1) then (p.Addr != p1) else false)
def S112 (p:NetPrefix) (p1:Int):Spec:=⟨[.r (.g (eNetPrefix p)),.rp ([.v (vI p1)])],.v (.bool (F112 p p1)),0<=p.Len/\p.Len<=16⟩
theorem ok112 (p:NetPrefix) (p1:Int):(S112 p p1).ok Tryz.prog 112 :=
 fnG_ok mixed (fn:=Tryz.f112) (ct:=.seq .no (.seq (.reg [(2,kh113 p p1)]) .no)) Tryz.func112 (fun (hp:0<=p.Len/\p.Len<=16)=>have hpre0:=hp.1; have hpre1:=hp.2; kc113 p p1 uu0 uu0 (fiB (bif (F113 p p1) then (p.Addr != p1) else false) (F112 p p1) rfl)) uu3
def fsQ111 (Q:NetPrefix->Prop) (p:NetPrefix->Bool):FnSpec:=⟨NetPrefix,fun i=>[.g (pxH (eNetPrefix i) (Q i))],fun i=>.bool (p i)⟩
def F150_s0 (s:List NetPrefix) (f:NetPrefix->Bool):Int->Lp Int Int:=fun v8 =>
 bif (decide (v8<(s.length:Int))) then (bif (f (s.getD (Int.toNat v8) default)) then (.ret v8) else (.next (v8+1))) else (.done v8)
def F150 (s:List NetPrefix) (f:NetPrefix->Bool):Int :=
 (runL (F150_s0 s f) ((Int.toNat ((s.length:Int)-0))+1) 0).fin (fun r=>r) (fun v8=>(-1))
abbrev lN150_0 (s:List NetPrefix):Nat×Int:=(((Int.toNat ((s.length:Int)-0))+1),0)
abbrev lI150_0 (s:List NetPrefix) (m39:Nat) (v8:Int):Prop:=Int.toNat ((s.length:Int)-v8)<m39/\(0:Int)<=v8
abbrev lX150_0 (s:List NetPrefix) (f:NetPrefix->Bool):Lp Int Int:=LpX (F150_s0 s f) (lN150_0 s)
abbrev lJ150_0 (s:List NetPrefix) (f:NetPrefix->Bool) (i:Nat×Int):Prop:=LpJ (F150_s0 s f) (lN150_0 s) i (lI150_0 s i.1 i.2)
abbrev lH150_0 (s:List NetPrefix) (f:NetPrefix->Bool) (i:Nat×Int) (m39:Nat) (v8:Int):Prop:=LpH (F150_s0 s f) (lN150_0 s) i m39 v8 (lI150_0 s (m39+1) v8)
abbrev lE150_0 (Qf:NetPrefix->Prop) (s:List NetPrefix) (f:NetPrefix->Bool) (v8:Int) (v8_:Int) (K39:Prop):Prop:=(Rf (.int .i64 (s.length:Int)))/\((.int .i64 v8:Value)=.int .i64 v8_)/\(Im (.l 2 eNetPrefix s))/\(fsQ111 Qf f=fsQ111 Qf f)/\K39
theorem un150_0 (s:List NetPrefix) (f:NetPrefix->Bool) (i:Nat×Int) (h:lJ150_0 s f i):lH150_0 s f i (i.1-1) i.2:=⟨hd1 h.1 h.2.1,hd3 h.2.1,hd2 h.2.1,h.2.2⟩
theorem bk150_0 (Qf:NetPrefix->Prop) (s:List NetPrefix) (f:NetPrefix->Bool) (i:Nat×Int) (m39:Nat) (v8:Int) (hl:m39<i.1) (e:runL (F150_s0 s f) m39 v8=lX150_0 s f) (h:lI150_0 s m39 v8):∃ j:Nat×Int,lE150_0 Qf s f v8 j.2 (lJ150_0 s f j/\j.1<i.1):=⟨(m39,v8),rfl,rfl,Imp.refl _,rfl,⟨e,h⟩,hl⟩
theorem en150_0 (Qf:NetPrefix->Prop) (s:List NetPrefix) (f:NetPrefix->Bool) (h:(0:Int)<=0):lE150_0 Qf s f 0 0 (lJ150_0 s f (lN150_0 s)):=⟨rfl,rfl,Imp.refl _,rfl,rfl,Qr _,h⟩
def S150 (R:Int) (s:List NetPrefix) (f:NetPrefix->Bool) (Qf:NetPrefix->Prop):Spec:=⟨[.r (.c (.l 2 eNetPrefix s)),.fn (fsQ111 Qf f)],.v (vI R),(∀ k:Nat,k<s.length->Qf (s.getD k default))⟩
theorem ok150 (s:List NetPrefix) (f:NetPrefix->Bool) (Qf:NetPrefix->Prop):(S150 (F150 s f) s f Qf).ok Tryz.prog 150 false :=
 fnG_ok mixed (fn:=Tryz.f150) (ct:=.seqk [(0,0)] .no (.seq (.seqk [(0,0)] .no (.blk (.loop (ι:=Nat×Int) (fun i=>(fun (v8:Int)=>(⟨[(0,some (.h 0 0)),(1,some (.h 1 0)),(7,some (.v (vI (s.length:Int)))),(8,some (.v (vI v8)))],[(0,some (.shr none (.l 2 eNetPrefix s))),(1,some (.fn (fsQ111 Qf f)))],2⟩:St)) i.2) (lJ150_0 s f) (fun i=>i.1) (lN150_0 s) (fun i=>(fun (v8:Int)=>(.seq .no (.seq (.cond .no .no) (.seq (.blk (.seq .no (.seq (.reg [(5,.fnv (fsQ111 Qf f) (s.getD (Int.toNat v8) default))]) (.cond (.seq .no .no) .no)))) (.reg [(0,.bnd)]))))) i.2)))) (.seq .no .no))) Tryz.func150 (fun (hpre0:∀ k:Nat,k<s.length->Qf (s.getD k default))=>kn s fun _=>kn s fun _=>ai (en150_0 Qf s f uu0) (fun (i0:Nat×Int) (hi0:lJ150_0 s f i0)=>(fun (m0:Nat) (v8:Int) (hh0:lH150_0 s f i0 m0 v8)=>have hI0:=hh0.1; have hl0:=hh0.2.1; have _:=hh0.2.2.1; have _:=hh0.2.2.2; ifd (v8<(s.length:Int)) (fun h2 _=>ai (uu0:ib v8 s) (ai (Eq.refl (fsQ111 Qf f)) (ai (Imps.pxH (ds:=eNetPrefix (s.getD (Int.toNat v8) default)) (hpre0 (Int.toNat v8) uu0)) (ifb (f (s.getD (Int.toNat v8) default)) (fun h3=>fiI v8 (F150 s f) (finR (runL_ret hI0 (condT h2 (condT h3 rfl))) rfl)) (fun h3=>ai (iok (v8+1) uu0) (bk150_0 Qf s f i0 m0 (v8+1) hl0 (runL_next hI0 (condT h2 (condF h3 rfl))) uu6)))))) (fun h2 _=>have hD0_4:lX150_0 s f=Lp.done v8:=runL_done hI0 (condF h2 rfl); fiI (-1) (F150 s f) (finD hD0_4 rfl))) (i0.1-1) i0.2 (un150_0 s f i0 hi0))) uu3
theorem as150 (s:List NetPrefix) (f:NetPrefix->Bool):F150 s f=(idxI f s):=by
 exact idx_loop f s (F150_s0 s f) (fun i=>rfl)
theorem oa150 (s:List NetPrefix) (f:NetPrefix->Bool) (Qf:NetPrefix->Prop):(S150 (idxI f s) s f Qf).ok Tryz.prog 150 false:=by
 intro hp; have h:=ok150 s f Qf hp; rw [as150 s f] at h; exact h
theorem g150_0 (s:List NetPrefix) (f:NetPrefix->Bool):(idxI f s)<(s.length:Int):=by
 exact idxI_lt f s
theorem g150_1 (s:List NetPrefix) (f:NetPrefix->Bool):-1<=(idxI f s):=by
 (show -1<=idxI f s; unfold idxI; cases first (fun k=>f (s.getD k default)) s.length <;> simp only [oix] <;> omega)
theorem kc150a (s:List NetPrefix) (f:NetPrefix->Bool) (Qf:NetPrefix->Prop) {K_:Prop} (p0_:∀ k:Nat,k<s.length->Qf (s.getD k default)) (k_:((idxI f s)<(s.length:Int))->(-1<=(idxI f s))->K_):(∀ k:Nat,k<s.length->Qf (s.getD k default))/\(Imp (.l 2 eNetPrefix s) (.l 2 eNetPrefix s))/\(fsQ111 Qf f=fsQ111 Qf f)/\K_:=⟨p0_,Imp.refl _,rfl,k_ (g150_0 s f) (g150_1 s f)⟩
abbrev kh150a (s:List NetPrefix) (f:NetPrefix->Bool) (Qf:NetPrefix->Prop):Hint false Tryz.prog:=.call 150 (S150 (idxI f s) s f Qf) (oa150 s f Qf) none
def F111 (s:List NetPrefix) (f:NetPrefix->Bool):Bool :=
 decide ((idxI f s)>=0)
def S111 (R:Bool) (s:List NetPrefix) (f:NetPrefix->Bool) (Qf:NetPrefix->Prop):Spec:=⟨[.r (.c (.l 2 eNetPrefix s)),.fn (fsQ111 Qf f)],.v (.bool R),(∀ k:Nat,k<s.length->Qf (s.getD k default))⟩
theorem ok111 (s:List NetPrefix) (f:NetPrefix->Bool) (Qf:NetPrefix->Prop):(S111 (F111 s f) s f Qf).ok Tryz.prog 111 false :=
 fnG_ok mixed (fn:=Tryz.f111) (ct:=.seqk [(0,0)] .no (.seq (.reg [(2,kh150a s f Qf)]) .no)) Tryz.func111 (fun (hpre0:∀ k:Nat,k<s.length->Qf (s.getD k default))=>kn s fun _=>kc150a s f Qf uu9 (fun gv1 gv2=>fiB (decide ((idxI f s)>=0)) (F111 s f) rfl)) uu3
theorem as111 (s:List NetPrefix) (f:NetPrefix->Bool):F111 s f=(s.any f):=by
 exact any_idx f s
theorem oa111 (s:List NetPrefix) (f:NetPrefix->Bool) (Qf:NetPrefix->Prop):(S111 (s.any f) s f Qf).ok Tryz.prog 111 false:=by
 intro hp; have h:=ok111 s f Qf hp; rw [as111 s f] at h; exact h
def F109 (text:Za) (p1:List NetPrefix):Bool :=
 (!(p1.any (fun (x0:NetPrefix)=>F112 x0 (F110 text))))
def S109 (text:Za) (p1:List NetPrefix):Spec:=⟨[.r (.c (.v (.string text))),.rp ([.l 2 eNetPrefix p1])],.v (.bool (F109 text p1)),text.size<=1048576/\(∀ k:Nat,0<=(p1.getD k default).Len/\(p1.getD k default).Len<=16)⟩
theorem ok109 (text:Za) (p1:List NetPrefix):(S109 text p1).ok Tryz.prog 109 false :=
 fnG_ok mixed (fn:=Tryz.f109) (ct:=.seq .no (.seq (.reg [(1,kh110 text)]) (.seq (.reg [(2,.call 111 (S111 (p1.any (fun (x0:NetPrefix)=>F112 x0 (F110 text))) p1 (fun (x0:NetPrefix)=>F112 x0 (F110 text)) (fun (x0:NetPrefix)=>0<=x0.Len/\x0.Len<=16)) (oa111 p1 (fun (x0:NetPrefix)=>F112 x0 (F110 text)) (fun (x0:NetPrefix)=>0<=x0.Len/\x0.Len<=16)) (some ⟨true,112,fsQ111 (fun (x0:NetPrefix)=>0<=x0.Len/\x0.Len<=16) (fun (x0:NetPrefix)=>F112 x0 (F110 text)),[.rp ([.v (vI (F110 text))])],rfl,True,fun i=>ok_pxH (ok112 i (F110 text))⟩))]) .no))) Tryz.func109 (fun (hp:text.size<=1048576/\(∀ k:Nat,0<=(p1.getD k default).Len/\(p1.getD k default).Len<=16))=>have hpre0:=hp.1; have hpre1:=hp.2; kc110 text uu0 (ai (by exact fun k _=>hpre1 k:∀ k:Nat,k<p1.length->(fun (x0:NetPrefix)=>0<=x0.Len/\x0.Len<=16) (p1.getD k default)) (ai (Imp.refl (.l 2 eNetPrefix p1)) (ai (Eq.refl (fsQ111 (fun (x0:NetPrefix)=>0<=x0.Len/\x0.Len<=16) (fun (x0:NetPrefix)=>F112 x0 (F110 text)))) (ai trivial (ai (Imps.refl [.v (vI (F110 text))]) (fiB (!(p1.any (fun (x0:NetPrefix)=>F112 x0 (F110 text)))) (F109 text p1) rfl))))))) uu3
def F56_s0 (lines:List Za):(List Za×Int)->Lp (List Za×Int) Bool:=fun (addrs1,v13) =>
 bif (decide (v13<((linesL lines Zi).length:Int))) then (.next ((addrs1++[(((linesL lines Zi).getD (Int.toNat v13) default).getD (Int.toNat 2) default)]),(v13+1))) else (.done (addrs1,v13))
def F56_j0 (lines:List Za):Lp (List Za) Bool :=
 (runL (F56_s0 lines) ((Int.toNat (((linesL lines Zi).length:Int)-0))+1) (([]:List Za),0)).fin Lp.ret (fun (addrs1,v13)=>.done addrs1)
def F56_s1 (lines:List Za) (addrs:List Za):(List Za×Int)->Lp (List Za×Int) Bool:=fun (addrs3,v27) =>
 bif (decide (v27<((linesL lines Zh).length:Int))) then (.next ((addrs3++[(((linesL lines Zh).getD (Int.toNat v27) default).getD (Int.toNat 1) default)]),(v27+1))) else (.done (addrs3,v27))
def F56_j1 (lines:List Za) (addrs:List Za):Lp (List Za) Bool :=
 (runL (F56_s1 lines addrs) ((Int.toNat (((linesL lines Zh).length:Int)-0))+1) (addrs,0)).fin Lp.ret (fun (addrs3,v27)=>.done addrs3)
def F56 (lines:List Za):Bool :=
 (F56_j0 lines).fin (fun r=>r) (fun addrs=>(F56_j1 lines addrs).fin (fun r=>r) (fun addrs2=>(addrs2.any (fun (x0:Za)=>F109 x0 (portsL lines)))))
abbrev lN56_0 (lines:List Za):Nat×(List Za×Int):=(((Int.toNat (((linesL lines Zi).length:Int)-0))+1),(([]:List Za),0))
abbrev lI56_0 (lines:List Za) (m39:Nat) (addrs1:List Za) (v13:Int):Prop:=Int.toNat (((linesL lines Zi).length:Int)-v13)<m39/\(addrs1.length:Int)<=v13/\v13<=((linesL lines Zi).length:Int)/\(∀ k:Nat,(addrs1.getD k default).size<=1048576)/\(0:Int)<=v13
abbrev lX56_0 (lines:List Za):Lp (List Za×Int) Bool:=LpX (F56_s0 lines) (lN56_0 lines)
abbrev lJ56_0 (lines:List Za) (i:Nat×(List Za×Int)):Prop:=LpJ (F56_s0 lines) (lN56_0 lines) i (lI56_0 lines i.1 i.2.1 i.2.2)
abbrev lH56_0 (lines:List Za) (i:Nat×(List Za×Int)) (m39:Nat) (addrs1:List Za) (v13:Int):Prop:=LpH (F56_s0 lines) (lN56_0 lines) i m39 (addrs1,v13) (lI56_0 lines (m39+1) addrs1 v13)
abbrev lE56_0 (lines:List Za) (addrs1:List Za) (v13:Int) (addrs1_:List Za) (v13_:Int) (K39:Prop):Prop:=(Rf (.int .i64 ((linesL lines Zi).length:Int)))/\((.int .i64 v13:Value)=.int .i64 v13_)/\(Im (.l 1 eStr lines))/\(Imp (.l 1 eStr addrs1) (.l 1 eStr addrs1_))/\(Im (.l 1 (eL 1 eStr) (linesL lines Zi)))/\K39
theorem un56_0 (lines:List Za) (i:Nat×(List Za×Int)) (h:lJ56_0 lines i):lH56_0 lines i (i.1-1) i.2.1 i.2.2:=⟨hd1 h.1 h.2.1,hd3 h.2.1,hd2 h.2.1,h.2.2⟩
theorem bk56_0 (lines:List Za) (i:Nat×(List Za×Int)) (m39:Nat) (addrs1:List Za) (v13:Int) (hl:m39<i.1) (e:runL (F56_s0 lines) m39 (addrs1,v13)=lX56_0 lines) (h:lI56_0 lines m39 addrs1 v13):∃ j:Nat×(List Za×Int),lE56_0 lines addrs1 v13 j.2.1 j.2.2 (lJ56_0 lines j/\j.1<i.1):=⟨(m39,(addrs1,v13)),rfl,rfl,Imp.refl _,Imp.refl _,Imp.refl _,⟨e,h⟩,hl⟩
theorem en56_0 (lines:List Za) (h:(([]:List Za).length:Int)<=0/\0<=((linesL lines Zi).length:Int)/\(∀ k:Nat,(([]:List Za).getD k default).size<=1048576)/\(0:Int)<=0):lE56_0 lines ([]:List Za) 0 ([]:List Za) 0 (lJ56_0 lines (lN56_0 lines)):=⟨rfl,rfl,Imp.refl _,Imp.refl _,Imp.refl _,rfl,Qr _,h⟩
abbrev jI56_0 (lines:List Za) (addrs:List Za):Prop:=(addrs.length:Int)<=16/\(∀ k:Nat,(addrs.getD k default).size<=1048576)
abbrev jJ56_0 (lines:List Za) (j:List Za):Prop:=(F56_j0 lines)=Lp.done j/\jI56_0 lines j
theorem jn56_0 (lines:List Za) (addrs:List Za) (e:(F56_j0 lines)=Lp.done addrs) (h:jI56_0 lines addrs):∃ j:List Za,(Imp (.l 1 eStr lines) (.l 1 eStr lines))/\(Imp (.l 1 eStr addrs) (.l 1 eStr j))/\jJ56_0 lines j:=⟨addrs,Imp.refl _,Imp.refl _,e,h⟩
abbrev lN56_1 (lines:List Za) (addrs:List Za):Nat×(List Za×Int):=(((Int.toNat (((linesL lines Zh).length:Int)-0))+1),(addrs,0))
abbrev lI56_1 (lines:List Za) (m39:Nat) (addrs3:List Za) (v27:Int):Prop:=Int.toNat (((linesL lines Zh).length:Int)-v27)<m39/\(addrs3.length:Int)<=16+v27/\v27<=((linesL lines Zh).length:Int)/\(∀ k:Nat,(addrs3.getD k default).size<=1048576)/\(0:Int)<=v27
abbrev lX56_1 (lines:List Za) (addrs:List Za):Lp (List Za×Int) Bool:=LpX (F56_s1 lines addrs) (lN56_1 lines addrs)
abbrev lJ56_1 (lines:List Za) (addrs:List Za) (i:Nat×(List Za×Int)):Prop:=LpJ (F56_s1 lines addrs) (lN56_1 lines addrs) i (lI56_1 lines i.1 i.2.1 i.2.2)
abbrev lH56_1 (lines:List Za) (addrs:List Za) (i:Nat×(List Za×Int)) (m39:Nat) (addrs3:List Za) (v27:Int):Prop:=LpH (F56_s1 lines addrs) (lN56_1 lines addrs) i m39 (addrs3,v27) (lI56_1 lines (m39+1) addrs3 v27)
abbrev lE56_1 (lines:List Za) (addrs3:List Za) (v27:Int) (addrs3_:List Za) (v27_:Int) (K39:Prop):Prop:=(Rf (.int .i64 ((linesL lines Zh).length:Int)))/\((.int .i64 v27:Value)=.int .i64 v27_)/\(Im (.l 1 eStr lines))/\(Imp (.l 1 eStr addrs3) (.l 1 eStr addrs3_))/\(Im (.l 1 (eL 1 eStr) (linesL lines Zh)))/\K39
theorem un56_1 (lines:List Za) (addrs:List Za) (i:Nat×(List Za×Int)) (h:lJ56_1 lines addrs i):lH56_1 lines addrs i (i.1-1) i.2.1 i.2.2:=⟨hd1 h.1 h.2.1,hd3 h.2.1,hd2 h.2.1,h.2.2⟩
theorem bk56_1 (lines:List Za) (addrs:List Za) (i:Nat×(List Za×Int)) (m39:Nat) (addrs3:List Za) (v27:Int) (hl:m39<i.1) (e:runL (F56_s1 lines addrs) m39 (addrs3,v27)=lX56_1 lines addrs) (h:lI56_1 lines m39 addrs3 v27):∃ j:Nat×(List Za×Int),lE56_1 lines addrs3 v27 j.2.1 j.2.2 (lJ56_1 lines addrs j/\j.1<i.1):=⟨(m39,(addrs3,v27)),rfl,rfl,Imp.refl _,Imp.refl _,Imp.refl _,⟨e,h⟩,hl⟩
theorem en56_1 (lines:List Za) (addrs:List Za) (h:(addrs.length:Int)<=16+0/\0<=((linesL lines Zh).length:Int)/\(∀ k:Nat,(addrs.getD k default).size<=1048576)/\(0:Int)<=0):lE56_1 lines addrs 0 addrs 0 (lJ56_1 lines addrs (lN56_1 lines addrs)):=⟨rfl,rfl,Imp.refl _,Imp.refl _,Imp.refl _,rfl,Qr _,h⟩
abbrev jI56_1 (lines:List Za) (addrs:List Za) (addrs2:List Za):Prop:=(addrs2.length:Int)<=32/\(∀ k:Nat,(addrs2.getD k default).size<=1048576)
abbrev jJ56_1 (lines:List Za) (addrs:List Za) (j:List Za):Prop:=(F56_j1 lines addrs)=Lp.done j/\jI56_1 lines addrs j
theorem jn56_1 (lines:List Za) (addrs:List Za) (addrs2:List Za) (e:(F56_j1 lines addrs)=Lp.done addrs2) (h:jI56_1 lines addrs addrs2):∃ j:List Za,(Imp (.l 1 eStr lines) (.l 1 eStr lines))/\(Imp (.l 1 eStr addrs2) (.l 1 eStr j))/\jJ56_1 lines addrs j:=⟨addrs2,Imp.refl _,Imp.refl _,e,h⟩
def S56 (lines:List Za):Spec:=⟨[.r (.c (.l 1 eStr lines))],.v (.bool (F56 lines)),F58 lines=0/\lines.length<=16/\(∀ k:Nat,(lines.getD k default).size<=1048576)⟩
theorem ok56 (lines:List Za):(S56 lines).ok Tryz.prog 56 false :=
 fnG_ok mixed (fn:=Tryz.f56) (ct:=.seqk [(0,0)] .no (.seq (.reg [(0,.dat (.l 1 eStr ([]:List Za)))]) (.cut (ι:=List Za) (fun j=>(fun (addrs:List Za)=>(⟨[(0,some (.h 0 0)),(3,some (.h 1 0))],[(0,some (.shr none (.l 1 eStr lines))),(1,some (.own 1 (.l 1 eStr addrs)))],2⟩:St)) j) (jJ56_0 lines) (.seqk [(3,0),(11,0)] (.reg [(1,kh103af lines Zi)]) (.blk (.loop (ι:=Nat×(List Za×Int)) (fun i=>(fun (addrs1:List Za) (v13:Int)=>(⟨[(0,some (.h 0 0)),(3,some (.h 1 0)),(11,some (.h 2 0)),(12,some (.v (vI ((linesL lines Zi).length:Int)))),(13,some (.v (vI v13)))],[(0,some (.shr none (.l 1 eStr lines))),(1,some (.own 1 (.l 1 eStr addrs1))),(2,some (.own 2 (.l 1 (eL 1 eStr) (linesL lines Zi))))],3⟩:St)) i.2.1 i.2.2) (lJ56_0 lines) (fun i=>i.1) (lN56_0 lines) (fun i=>(fun (addrs1:List Za) (v13:Int)=>(.seq .no (.seq (.cond .no .no) (.seq (.blk (.seq .no (.reg [(5,.dat (.l 1 eStr (addrs1++[(((linesL lines Zi).getD (Int.toNat v13) default).getD (Int.toNat 2) default)])))]))) (.reg [(0,.bnd)]))))) i.2.1 i.2.2)))) (fun j=>(fun (addrs:List Za)=>(.cut (ι:=List Za) (fun j=>(fun (addrs2:List Za)=>(⟨[(0,some (.h 0 0)),(3,some (.h 1 0))],[(0,some (.shr none (.l 1 eStr lines))),(1,some (.own 1 (.l 1 eStr addrs2)))],2⟩:St)) j) (jJ56_1 lines addrs) (.seqk [(3,0),(25,0)] (.reg [(1,kh103af lines Zh)]) (.blk (.loop (ι:=Nat×(List Za×Int)) (fun i=>(fun (addrs3:List Za) (v27:Int)=>(⟨[(0,some (.h 0 0)),(3,some (.h 1 0)),(25,some (.h 2 0)),(26,some (.v (vI ((linesL lines Zh).length:Int)))),(27,some (.v (vI v27)))],[(0,some (.shr none (.l 1 eStr lines))),(1,some (.own 1 (.l 1 eStr addrs3))),(2,some (.own 2 (.l 1 (eL 1 eStr) (linesL lines Zh))))],3⟩:St)) i.2.1 i.2.2) (lJ56_1 lines addrs) (fun i=>i.1) (lN56_1 lines addrs) (fun i=>(fun (addrs3:List Za) (v27:Int)=>(.seq .no (.seq (.cond .no .no) (.seq (.blk (.seq .no (.reg [(5,.dat (.l 1 eStr (addrs3++[(((linesL lines Zh).getD (Int.toNat v27) default).getD (Int.toNat 1) default)])))]))) (.reg [(0,.bnd)]))))) i.2.1 i.2.2)))) (fun j=>(fun (addrs2:List Za)=>(.seq (.reg [(1,kh107a lines)]) (.seq (.reg [(2,.call 43 (S43 (addrs2.any (fun (x0:Za)=>F109 x0 (portsL lines))) addrs2 (fun (x0:Za)=>F109 x0 (portsL lines)) (fun (x0:Za)=>x0.size<=1048576/\(∀ k:Nat,0<=((portsL lines).getD k default).Len/\((portsL lines).getD k default).Len<=16))) (oa43 addrs2 (fun (x0:Za)=>F109 x0 (portsL lines)) (fun (x0:Za)=>x0.size<=1048576/\(∀ k:Nat,0<=((portsL lines).getD k default).Len/\((portsL lines).getD k default).Len<=16))) (some ⟨false,109,fsQ64 (fun (x0:Za)=>x0.size<=1048576/\(∀ k:Nat,0<=((portsL lines).getD k default).Len/\((portsL lines).getD k default).Len<=16)) (fun (x0:Za)=>F109 x0 (portsL lines)),[.rp ([.l 2 eNetPrefix (portsL lines)])],rfl,True,fun i=>ok_px (ok109 i (portsL lines))⟩))]) .no))) j))) j)))) Tryz.func56 (fun (hp:F58 lines=0/\lines.length<=16/\(∀ k:Nat,(lines.getD k default).size<=1048576))=>have hpre0:=hp.1; have hpre1:=hp.2.1; have hpre2:=hp.2.2; kn lines fun _=>ai (bokr 1 eStr ([]:List Za) fun _=>rfl) (ai (kc103a lines Zi uu0 uu9 uu0 (fun gv1=>kn ([]:List Za) fun _=>kn (linesL lines Zi) fun _=>ai (en56_0 lines (by refine ⟨?_,?_,?_,?_⟩ <;> first | omega | (simp only [lens,ib] at*<;> omega) | exact sz_app (by assumption) (linesL_sz lines _ (by first | omega | (simp only [lens,ib] at*<;> omega)) _ _) | exact sz_nil)) (fun (i0:Nat×(List Za×Int)) (hi0:lJ56_0 lines i0)=>(fun (m0:Nat) (addrs1:List Za) (v13:Int) (hh0:lH56_0 lines i0 m0 addrs1 v13)=>have hI0:=hh0.1; have hl0:=hh0.2.1; have _:=hh0.2.2.1; have _:=hh0.2.2.2.1; have _:=hh0.2.2.2.2.1; have _:=hh0.2.2.2.2.2.1; have _:=hh0.2.2.2.2.2.2; ifd (v13<((linesL lines Zi).length:Int)) (fun h3 _=>ai (uu8:0<=v13/\v13<((linesL lines Zi).length:Int)) (ai (by (have h9:=route_at lines (by omega) (Int.toNat v13) (by omega); unfold routeP at h9; omega):0<=(2:Int)/\(2:Int)<(((linesL lines Zi).getD (Int.toNat v13) default).length:Int)) (ai (appr 1 eStr addrs1 [(((linesL lines Zi).getD (Int.toNat v13) default).getD (Int.toNat 2) default)] fun _=>rfl) (ai (uu17:(addrs1++[(((linesL lines Zi).getD (Int.toNat v13) default).getD (Int.toNat 2) default)]).length*16<=140737488355328) (ai (iok (v13+1) uu0) (bk56_0 lines i0 m0 (addrs1++[(((linesL lines Zi).getD (Int.toNat v13) default).getD (Int.toNat 2) default)]) (v13+1) hl0 (runL_next hI0 (condT h3 rfl)) (by refine ⟨?_,?_,?_,?_,?_⟩ <;> first | omega | (simp only [lens,ib] at*<;> omega) | exact sz_app (by assumption) (linesL_sz lines _ (by first | omega | (simp only [lens,ib] at*<;> omega)) _ _) | exact sz_nil))))))) (fun h3 _=>have hD0_4:lX56_0 lines=Lp.done (addrs1,v13):=runL_done hI0 (condF h3 rfl); jn56_0 lines addrs1 (S5 (finD hD0_4 rfl)) uu6)) (i0.1-1) i0.2.1 i0.2.2 (un56_0 lines i0 hi0)))) (fun (j:List Za) (hj:jJ56_0 lines j)=>(fun (addrs:List Za) (hJ0_5:(F56_j0 lines)=Lp.done addrs) (hw:jI56_0 lines addrs)=>have _:=hw.1; have _:=hw.2; ai (kc103a lines Zh uu0 uu9 uu0 (fun gv6=>kn addrs fun _=>kn (linesL lines Zh) fun _=>ai (en56_1 lines addrs uu39) (fun (i1:Nat×(List Za×Int)) (hi1:lJ56_1 lines addrs i1)=>(fun (m1:Nat) (addrs3:List Za) (v27:Int) (hh1:lH56_1 lines addrs i1 m1 addrs3 v27)=>have hI1:=hh1.1; have hl1:=hh1.2.1; have _:=hh1.2.2.1; have _:=hh1.2.2.2.1; have _:=hh1.2.2.2.2.1; have _:=hh1.2.2.2.2.2.1; have _:=hh1.2.2.2.2.2.2; ifd (v27<((linesL lines Zh).length:Int)) (fun h8 _=>ai (uu8:0<=v27/\v27<((linesL lines Zh).length:Int)) (ai (by (have h9:=peer_at lines (by omega) (Int.toNat v27) (by omega); unfold peerP at h9; omega):0<=(1:Int)/\(1:Int)<(((linesL lines Zh).getD (Int.toNat v27) default).length:Int)) (ai (appr 1 eStr addrs3 [(((linesL lines Zh).getD (Int.toNat v27) default).getD (Int.toNat 1) default)] fun _=>rfl) (ai (uu17:(addrs3++[(((linesL lines Zh).getD (Int.toNat v27) default).getD (Int.toNat 1) default)]).length*16<=140737488355328) (ai (iok (v27+1) uu0) (bk56_1 lines addrs i1 m1 (addrs3++[(((linesL lines Zh).getD (Int.toNat v27) default).getD (Int.toNat 1) default)]) (v27+1) hl1 (runL_next hI1 (condT h8 rfl)) (by refine ⟨?_,?_,?_,?_,?_⟩ <;> first | omega | (simp only [lens,ib] at*<;> omega) | exact sz_app (by assumption) (linesL_sz lines _ (by first | omega | (simp only [lens,ib] at*<;> omega)) _ _) | assumption))))))) (fun h8 _=>have hD1_9:lX56_1 lines addrs=Lp.done (addrs3,v27):=runL_done hI1 (condF h8 rfl); jn56_1 lines addrs addrs3 (S5 (finD hD1_9 rfl)) uu6)) (i1.1-1) i1.2.1 i1.2.2 (un56_1 lines addrs i1 hi1)))) (fun (j:List Za) (hj:jJ56_1 lines addrs j)=>(fun (addrs2:List Za) (hJ1_10:(F56_j1 lines addrs)=Lp.done addrs2) (hw:jI56_1 lines addrs addrs2)=>have _:=hw.1; have _:=hw.2; kc107a lines uu0 uu0 uu9 (ai (by exact fun k _=>⟨(by assumption:∀ k:Nat,(addrs2.getD k default).size<=1048576) k,ports_len lines⟩:∀ k:Nat,k<addrs2.length->(fun (x0:Za)=>x0.size<=1048576/\(∀ k:Nat,0<=((portsL lines).getD k default).Len/\((portsL lines).getD k default).Len<=16)) (addrs2.getD k default)) (ai (Imp.refl (.l 1 eStr addrs2)) (ai (Eq.refl (fsQ64 (fun (x0:Za)=>x0.size<=1048576/\(∀ k:Nat,0<=((portsL lines).getD k default).Len/\((portsL lines).getD k default).Len<=16)) (fun (x0:Za)=>F109 x0 (portsL lines)))) (ai trivial (ai (Imps.refl [.l 2 eNetPrefix (portsL lines)]) (fiB (addrs2.any (fun (x0:Za)=>F109 x0 (portsL lines))) (F56 lines) (finD hJ0_5 (finD hJ1_10 rfl))))))))) j hj.1 hj.2)) j hj.1 hj.2))) uu3
abbrev kh113f (p:NetPrefix) (addr:Int):Hint false Tryz.prog:=.call 113 (S113 p addr) ((ok113 p addr).to false) none
theorem kg115 {K_:Prop} (c_ b_:Bool) (word:Za) (p_:c_=b_->word.size<=1048576) (k_:K_):(c_=b_->word.size<=1048576)/\(c_=b_->Imp (.v (.string word)) (.v (.string word)))/\K_:=⟨p_,fun _=>Imp.refl _,k_⟩
def F57_s1 (lines:List Za) (v64:Int):Int->Lp Int Bool:=fun v89 =>
 bif (decide (v89<(((linesL lines Zb).take (Int.toNat v64)).length:Int))) then (bif (bif (bif (((((linesL lines Zb).take (Int.toNat v64)).getD (Int.toNat v89) default).getD (Int.toNat 1) default).toList==(((linesL lines Zb).getD (Int.toNat v64) default).getD (Int.toNat 1) default).toList) then (((((linesL lines Zb).take (Int.toNat v64)).getD (Int.toNat v89) default).getD (Int.toNat 3) default).toList==(((linesL lines Zb).getD (Int.toNat v64) default).getD (Int.toNat 3) default).toList) else false) then (((((linesL lines Zb).take (Int.toNat v64)).getD (Int.toNat v89) default).getD (Int.toNat 4) default).toList==(((linesL lines Zb).getD (Int.toNat v64) default).getD (Int.toNat 4) default).toList) else false) then (.ret true) else (.next (v89+1))) else (.done v89)
def F57_s0 (lines:List Za):Int->Lp Int Bool:=fun v64 =>
 bif (decide (v64<((linesL lines Zb).length:Int))) then (bif (bif (!(F113 (F114 (((linesL lines Zc).getD (Int.toNat 0) default).getD (Int.toNat 1) default)).1 (F110 (((linesL lines Zb).getD (Int.toNat v64) default).getD (Int.toNat 3) default)))) then true else (decide ((F115 (((linesL lines Zc).getD (Int.toNat 0) default).getD (Int.toNat 3) default))<=(F115 (((linesL lines Zb).getD (Int.toNat v64) default).getD (Int.toNat 2) default))/\(F115 (((linesL lines Zb).getD (Int.toNat v64) default).getD (Int.toNat 2) default))<=(F115 (((linesL lines Zc).getD (Int.toNat 0) default).getD (Int.toNat 4) default))))) then (.ret true) else ((runL (F57_s1 lines v64) ((Int.toNat ((((linesL lines Zb).take (Int.toNat v64)).length:Int)-0))+1) 0).fin Lp.ret (fun v89=>.next (v64+1)))) else (.done v64)
def F57 (lines:List Za):Bool :=
 bif (((linesL lines Zc).length:Int)==0) then (decide (((linesL lines Zb).length:Int)>0)) else (bif (bif (bif (F113 (F114 (((linesL lines Zc).getD (Int.toNat 0) default).getD (Int.toNat 1) default)).1 (F110 (((linesL lines Zc).getD (Int.toNat 0) default).getD (Int.toNat 2) default))) then true else decide ((F115 (((linesL lines Zc).getD (Int.toNat 0) default).getD (Int.toNat 3) default))>(F115 (((linesL lines Zc).getD (Int.toNat 0) default).getD (Int.toNat 4) default)))) then true else decide (((linesL lines Zb).length:Int)>6)) then true else ((runL (F57_s0 lines) ((Int.toNat (((linesL lines Zb).length:Int)-0))+1) 0).fin (fun r=>r) (fun v64=>false)))
abbrev lN57_1 (lines:List Za) (v64:Int):Nat×Int:=(((Int.toNat ((((linesL lines Zb).take (Int.toNat v64)).length:Int)-0))+1),0)
abbrev lI57_1 (lines:List Za) (v64:Int) (m39:Nat) (v89:Int):Prop:=Int.toNat ((((linesL lines Zb).take (Int.toNat v64)).length:Int)-v89)<m39/\(0:Int)<=v89
abbrev lX57_1 (lines:List Za) (v64:Int):Lp Int Bool:=LpX (F57_s1 lines v64) (lN57_1 lines v64)
abbrev lJ57_1 (lines:List Za) (v64:Int) (i:Nat×Int):Prop:=LpJ (F57_s1 lines v64) (lN57_1 lines v64) i (lI57_1 lines v64 i.1 i.2)
abbrev lH57_1 (lines:List Za) (v64:Int) (i:Nat×Int) (m39:Nat) (v89:Int):Prop:=LpH (F57_s1 lines v64) (lN57_1 lines v64) i m39 v89 (lI57_1 lines v64 (m39+1) v89)
abbrev lE57_1 (lines:List Za) (v64:Int) (v89:Int) (v89_:Int) (K39:Prop):Prop:=(Rf (.int .i64 (F115 (((linesL lines Zc).getD (Int.toNat 0) default).getD (Int.toNat 3) default))))/\(Rf (.int .i64 (F115 (((linesL lines Zc).getD (Int.toNat 0) default).getD (Int.toNat 4) default))))/\(Rf (.int .i64 ((linesL lines Zb).length:Int)))/\(Rf (.int .i64 v64))/\(Rf (.int .i64 (((linesL lines Zb).take (Int.toNat v64)).length:Int)))/\((.int .i64 v89:Value)=.int .i64 v89_)/\(Im (.l 1 (eL 1 eStr) (linesL lines Zb)))/\(Rf (.int .i64 (F114 (((linesL lines Zc).getD (Int.toNat 0) default).getD (Int.toNat 1) default)).1.Addr))/\(Rf (.int .i64 (F114 (((linesL lines Zc).getD (Int.toNat 0) default).getD (Int.toNat 1) default)).1.Len))/\(Im (.l 1 eStr ((linesL lines Zb).getD (Int.toNat v64) default)))/\(Im (.l 1 (eL 1 eStr) ((linesL lines Zb).take (Int.toNat v64))))/\K39
theorem un57_1 (lines:List Za) (v64:Int) (i:Nat×Int) (h:lJ57_1 lines v64 i):lH57_1 lines v64 i (i.1-1) i.2:=⟨hd1 h.1 h.2.1,hd3 h.2.1,hd2 h.2.1,h.2.2⟩
theorem bk57_1 (lines:List Za) (v64:Int) (i:Nat×Int) (m39:Nat) (v89:Int) (hl:m39<i.1) (e:runL (F57_s1 lines v64) m39 v89=lX57_1 lines v64) (h:lI57_1 lines v64 m39 v89):∃ j:Nat×Int,lE57_1 lines v64 v89 j.2 (lJ57_1 lines v64 j/\j.1<i.1):=⟨(m39,v89),rfl,rfl,rfl,rfl,rfl,rfl,Imp.refl _,rfl,rfl,Imp.refl _,Imp.refl _,⟨e,h⟩,hl⟩
theorem en57_1 (lines:List Za) (v64:Int) (h:(0:Int)<=0):lE57_1 lines v64 0 0 (lJ57_1 lines v64 (lN57_1 lines v64)):=⟨rfl,rfl,rfl,rfl,rfl,rfl,Imp.refl _,rfl,rfl,Imp.refl _,Imp.refl _,rfl,Qr _,h⟩
abbrev lN57_0 (lines:List Za):Nat×Int:=(((Int.toNat (((linesL lines Zb).length:Int)-0))+1),0)
abbrev lI57_0 (lines:List Za) (m39:Nat) (v64:Int):Prop:=Int.toNat (((linesL lines Zb).length:Int)-v64)<m39/\(0:Int)<=v64
abbrev lX57_0 (lines:List Za):Lp Int Bool:=LpX (F57_s0 lines) (lN57_0 lines)
abbrev lJ57_0 (lines:List Za) (i:Nat×Int):Prop:=LpJ (F57_s0 lines) (lN57_0 lines) i (lI57_0 lines i.1 i.2)
abbrev lH57_0 (lines:List Za) (i:Nat×Int) (m39:Nat) (v64:Int):Prop:=LpH (F57_s0 lines) (lN57_0 lines) i m39 v64 (lI57_0 lines (m39+1) v64)
abbrev lE57_0 (lines:List Za) (v64:Int) (v64_:Int) (K39:Prop):Prop:=(Rf (.int .i64 (F115 (((linesL lines Zc).getD (Int.toNat 0) default).getD (Int.toNat 3) default))))/\(Rf (.int .i64 (F115 (((linesL lines Zc).getD (Int.toNat 0) default).getD (Int.toNat 4) default))))/\(Rf (.int .i64 ((linesL lines Zb).length:Int)))/\((.int .i64 v64:Value)=.int .i64 v64_)/\(Im (.l 1 (eL 1 eStr) (linesL lines Zb)))/\(Rf (.int .i64 (F114 (((linesL lines Zc).getD (Int.toNat 0) default).getD (Int.toNat 1) default)).1.Addr))/\(Rf (.int .i64 (F114 (((linesL lines Zc).getD (Int.toNat 0) default).getD (Int.toNat 1) default)).1.Len))/\K39
theorem un57_0 (lines:List Za) (i:Nat×Int) (h:lJ57_0 lines i):lH57_0 lines i (i.1-1) i.2:=⟨hd1 h.1 h.2.1,hd3 h.2.1,hd2 h.2.1,h.2.2⟩
theorem bk57_0 (lines:List Za) (i:Nat×Int) (m39:Nat) (v64:Int) (hl:m39<i.1) (e:runL (F57_s0 lines) m39 v64=lX57_0 lines) (h:lI57_0 lines m39 v64):∃ j:Nat×Int,lE57_0 lines v64 j.2 (lJ57_0 lines j/\j.1<i.1):=⟨(m39,v64),rfl,rfl,rfl,rfl,Imp.refl _,rfl,rfl,⟨e,h⟩,hl⟩
theorem en57_0 (lines:List Za) (h:(0:Int)<=0):lE57_0 lines 0 0 (lJ57_0 lines (lN57_0 lines)):=⟨rfl,rfl,rfl,rfl,Imp.refl _,rfl,rfl,rfl,Qr _,h⟩
def S57 (lines:List Za):Spec:=⟨[.r (.c (.l 1 eStr lines))],.v (.bool (F57 lines)),F58 lines=0/\lines.length<=16/\(∀ k:Nat,(lines.getD k default).size<=1048576)⟩
theorem ok57 (lines:List Za):(S57 lines).ok Tryz.prog 57 false :=
 fnG_ok mixed (fn:=Tryz.f57) (ct:=.seqk [(0,0)] .no (.seq (.reg [(1,kh103af lines Zc),(3,kh103af lines Zb)]) (.seq (.seq .no (.cond (.seq .no .no) .no)) (.seq (.reg [(5,kh114 (((linesL lines Zc).getD (Int.toNat 0) default).getD (Int.toNat 1) default))]) (.seq (.reg [(5,kh115 (((linesL lines Zc).getD (Int.toNat 0) default).getD (Int.toNat 3) default)),(11,kh115 (((linesL lines Zc).getD (Int.toNat 0) default).getD (Int.toNat 4) default))]) (.seq (.seq (.reg [(6,kh110 (((linesL lines Zc).getD (Int.toNat 0) default).getD (Int.toNat 2) default)),(7,kh113f (F114 (((linesL lines Zc).getD (Int.toNat 0) default).getD (Int.toNat 1) default)).1 (F110 (((linesL lines Zc).getD (Int.toNat 0) default).getD (Int.toNat 2) default)))]) (.cond (.seq .no .no) .no)) (.seq (.seqk [(4,0),(62,0)] .no (.blk (.loop (ι:=Nat×Int) (fun i=>(fun (v64:Int)=>(⟨[(4,some (.h 0 0)),(5,some (.p 1 0)),(7,some (.v (vI (F115 (((linesL lines Zc).getD (Int.toNat 0) default).getD (Int.toNat 3) default))))),(8,some (.v (vI (F115 (((linesL lines Zc).getD (Int.toNat 0) default).getD (Int.toNat 4) default))))),(62,some (.h 0 0)),(63,some (.v (vI ((linesL lines Zb).length:Int)))),(64,some (.v (vI v64)))],[(0,some (.own 0 (.l 1 (eL 1 eStr) (linesL lines Zb)))),(1,some (.box 110 [.v (vI (F114 (((linesL lines Zc).getD (Int.toNat 0) default).getD (Int.toNat 1) default)).1.Addr),.v (vI (F114 (((linesL lines Zc).getD (Int.toNat 0) default).getD (Int.toNat 1) default)).1.Len)]))],2⟩:St)) i.2) (lJ57_0 lines) (fun i=>i.1) (lN57_0 lines) (fun i=>(fun (v64:Int)=>(.seq .no (.seq (.cond .no .no) (.seq (.blk (.seq (.reg [(2,.sh)]) (.seq (.seq (.reg [(4,kh110 (((linesL lines Zb).getD (Int.toNat v64) default).getD (Int.toNat 3) default)),(5,kh113f (F114 (((linesL lines Zc).getD (Int.toNat 0) default).getD (Int.toNat 1) default)).1 (F110 (((linesL lines Zb).getD (Int.toNat v64) default).getD (Int.toNat 3) default))),(11,kh115 (((linesL lines Zb).getD (Int.toNat v64) default).getD (Int.toNat 2) default)),(14,kh39af (F115 (((linesL lines Zb).getD (Int.toNat v64) default).getD (Int.toNat 2) default)) (F115 (((linesL lines Zc).getD (Int.toNat 0) default).getD (Int.toNat 3) default)) (F115 (((linesL lines Zc).getD (Int.toNat 0) default).getD (Int.toNat 4) default)))]) (.cond (.seq .no .no) .no)) (.seqk [(10,0),(87,0)] .no (.blk (.loop (ι:=Nat×Int) (fun i=>(fun (v89:Int)=>(⟨[(4,some (.h 0 0)),(5,some (.p 1 0)),(7,some (.v (vI (F115 (((linesL lines Zc).getD (Int.toNat 0) default).getD (Int.toNat 3) default))))),(8,some (.v (vI (F115 (((linesL lines Zc).getD (Int.toNat 0) default).getD (Int.toNat 4) default))))),(10,some (.h 2 0)),(62,some (.h 0 0)),(63,some (.v (vI ((linesL lines Zb).length:Int)))),(64,some (.v (vI v64))),(87,some (.h 3 0)),(88,some (.v (vI (((linesL lines Zb).take (Int.toNat v64)).length:Int)))),(89,some (.v (vI v89)))],[(0,some (.own 0 (.l 1 (eL 1 eStr) (linesL lines Zb)))),(1,some (.box 110 [.v (vI (F114 (((linesL lines Zc).getD (Int.toNat 0) default).getD (Int.toNat 1) default)).1.Addr),.v (vI (F114 (((linesL lines Zc).getD (Int.toNat 0) default).getD (Int.toNat 1) default)).1.Len)])),(2,some (.shr (some (0,0)) (.l 1 eStr ((linesL lines Zb).getD (Int.toNat v64) default)))),(3,some (.shr (some (0,0)) (.l 1 (eL 1 eStr) ((linesL lines Zb).take (Int.toNat v64)))))],4⟩:St)) i.2) (lJ57_1 lines v64) (fun i=>i.1) (lN57_1 lines v64) (fun i=>(fun (v89:Int)=>(.seq .no (.seq (.cond .no .no) (.seq (.blk (.seq .no (.seq .no (.cond (.seq .no .no) .no)))) (.reg [(0,.bnd)]))))) i.2))))))) (.reg [(0,.bnd)]))))) i.2)))) (.seq .no .no)))))))) Tryz.func57 (fun (hp:F58 lines=0/\lines.length<=16/\(∀ k:Nat,(lines.getD k default).size<=1048576))=>have hpre0:=hp.1; have hpre1:=hp.2.1; have hpre2:=hp.2.2; kn lines fun _=>kc103a lines Zc uu2 uu46 uu2 (fun gv1=>kc103a lines Zb uu2 uu46 uu2 (fun gv2=>ife ((linesL lines Zc).length:Int) 0 (fun h3 _=>fiB (decide (((linesL lines Zb).length:Int)>0)) (F57 lines) (condT h3 rfl)) (fun h3 _=>ai (uu16:0<=(0:Int)/\(0:Int)<((linesL lines Zc).length:Int)) (ai (uu16:0<=(1:Int)/\(1:Int)<(((linesL lines Zc).getD (Int.toNat 0) default).length:Int)) (kc114 (((linesL lines Zc).getD (Int.toNat 0) default).getD (Int.toNat 1) default) uu26 (ai (uu16:0<=(0:Int)/\(0:Int)<((linesL lines Zc).length:Int)) (ai (uu16:0<=(3:Int)/\(3:Int)<(((linesL lines Zc).getD (Int.toNat 0) default).length:Int)) (kc115 (((linesL lines Zc).getD (Int.toNat 0) default).getD (Int.toNat 3) default) uu26 (ai (uu16:0<=(0:Int)/\(0:Int)<((linesL lines Zc).length:Int)) (ai (uu16:0<=(4:Int)/\(4:Int)<(((linesL lines Zc).getD (Int.toNat 0) default).length:Int)) (kc115 (((linesL lines Zc).getD (Int.toNat 0) default).getD (Int.toNat 4) default) uu26 (ai (uu16:0<=(0:Int)/\(0:Int)<((linesL lines Zc).length:Int)) (ai (uu16:0<=(2:Int)/\(2:Int)<(((linesL lines Zc).getD (Int.toNat 0) default).length:Int)) (kc110 (((linesL lines Zc).getD (Int.toNat 0) default).getD (Int.toNat 2) default) uu26 (kc113 (F114 (((linesL lines Zc).getD (Int.toNat 0) default).getD (Int.toNat 1) default)).1 (F110 (((linesL lines Zc).getD (Int.toNat 0) default).getD (Int.toNat 2) default)) uu48 uu48 (ifb (bif (bif (F113 (F114 (((linesL lines Zc).getD (Int.toNat 0) default).getD (Int.toNat 1) default)).1 (F110 (((linesL lines Zc).getD (Int.toNat 0) default).getD (Int.toNat 2) default))) then true else decide ((F115 (((linesL lines Zc).getD (Int.toNat 0) default).getD (Int.toNat 3) default))>(F115 (((linesL lines Zc).getD (Int.toNat 0) default).getD (Int.toNat 4) default)))) then true else decide (((linesL lines Zb).length:Int)>6)) (fun h4=>fiB true (F57 lines) (condF h3 (condT h4 rfl))) (fun h4=>have _:¬ (F115 (((linesL lines Zc).getD (Int.toNat 0) default).getD (Int.toNat 3) default))>(F115 (((linesL lines Zc).getD (Int.toNat 0) default).getD (Int.toNat 4) default)):=Qv (orF2 (orF1 h4)); have _:¬ ((linesL lines Zb).length:Int)>6:=Qv (orF2 h4); kn (linesL lines Zb) fun _=>kn (linesL lines Zb) fun _=>ai (en57_0 lines uu2) (fun (i0:Nat×Int) (hi0:lJ57_0 lines i0)=>(fun (m0:Nat) (v64:Int) (hh0:lH57_0 lines i0 m0 v64)=>have hI0:=hh0.1; have hl0:=hh0.2.1; have _:=hh0.2.2.1; have _:=hh0.2.2.2; ifd (v64<((linesL lines Zb).length:Int)) (fun h6 _=>ai (uu16:0<=v64/\v64<((linesL lines Zb).length:Int)) (ai (uu16:0<=(3:Int)/\(3:Int)<(((linesL lines Zb).getD (Int.toNat v64) default).length:Int)) (kc110 (((linesL lines Zb).getD (Int.toNat v64) default).getD (Int.toNat 3) default) uu26 (kc113 (F114 (((linesL lines Zc).getD (Int.toNat 0) default).getD (Int.toNat 1) default)).1 (F110 (((linesL lines Zb).getD (Int.toNat v64) default).getD (Int.toNat 3) default)) uu48 uu48 (ai (fun k7:(!(F113 (F114 (((linesL lines Zc).getD (Int.toNat 0) default).getD (Int.toNat 1) default)).1 (F110 (((linesL lines Zb).getD (Int.toNat v64) default).getD (Int.toNat 3) default))))=false=>(uu16:0<=(2:Int)/\(2:Int)<(((linesL lines Zb).getD (Int.toNat v64) default).length:Int))) (kg115 (!(F113 (F114 (((linesL lines Zc).getD (Int.toNat 0) default).getD (Int.toNat 1) default)).1 (F110 (((linesL lines Zb).getD (Int.toNat v64) default).getD (Int.toNat 3) default)))) false (((linesL lines Zb).getD (Int.toNat v64) default).getD (Int.toNat 2) default) (fun k8=>uu26) (kg39a (!(F113 (F114 (((linesL lines Zc).getD (Int.toNat 0) default).getD (Int.toNat 1) default)).1 (F110 (((linesL lines Zb).getD (Int.toNat v64) default).getD (Int.toNat 3) default)))) false (F115 (((linesL lines Zb).getD (Int.toNat v64) default).getD (Int.toNat 2) default)) (F115 (((linesL lines Zc).getD (Int.toNat 0) default).getD (Int.toNat 3) default)) (F115 (((linesL lines Zc).getD (Int.toNat 0) default).getD (Int.toNat 4) default)) (ifb (bif (!(F113 (F114 (((linesL lines Zc).getD (Int.toNat 0) default).getD (Int.toNat 1) default)).1 (F110 (((linesL lines Zb).getD (Int.toNat v64) default).getD (Int.toNat 3) default)))) then true else (decide ((F115 (((linesL lines Zc).getD (Int.toNat 0) default).getD (Int.toNat 3) default))<=(F115 (((linesL lines Zb).getD (Int.toNat v64) default).getD (Int.toNat 2) default))/\(F115 (((linesL lines Zb).getD (Int.toNat v64) default).getD (Int.toNat 2) default))<=(F115 (((linesL lines Zc).getD (Int.toNat 0) default).getD (Int.toNat 4) default))))) (fun h10=>fiB true (F57 lines) (condF h3 (condF h4 (finR (runL_ret hI0 (condT h6 (condT h10 rfl))) rfl)))) (fun h10=>have _:¬ ((F115 (((linesL lines Zc).getD (Int.toNat 0) default).getD (Int.toNat 3) default))<=(F115 (((linesL lines Zb).getD (Int.toNat v64) default).getD (Int.toNat 2) default))/\(F115 (((linesL lines Zb).getD (Int.toNat v64) default).getD (Int.toNat 2) default))<=(F115 (((linesL lines Zc).getD (Int.toNat 0) default).getD (Int.toNat 4) default))):=Qv (orF2 h10); ai (uu2:0<=(0:Int)/\(0:Int)<=v64/\v64<=((linesL lines Zb).length:Int)) (kn ((linesL lines Zb).getD (Int.toNat v64) default) fun _=>kn ((linesL lines Zb).take (Int.toNat v64)) fun _=>ai (en57_1 lines v64 uu2) (fun (i1:Nat×Int) (hi1:lJ57_1 lines v64 i1)=>(fun (m1:Nat) (v89:Int) (hh1:lH57_1 lines v64 i1 m1 v89)=>have hI1:=hh1.1; have hl1:=hh1.2.1; have _:=hh1.2.2.1; have _:=hh1.2.2.2; ifd (v89<(((linesL lines Zb).take (Int.toNat v64)).length:Int)) (fun h12 _=>ai (uu16:0<=v89/\v89<(((linesL lines Zb).take (Int.toNat v64)).length:Int)) (ai (uu16:0<=(1:Int)/\(1:Int)<((((linesL lines Zb).take (Int.toNat v64)).getD (Int.toNat v89) default).length:Int)) (ai (uu16:0<=(1:Int)/\(1:Int)<(((linesL lines Zb).getD (Int.toNat v64) default).length:Int)) (ai (fun k13:(((((linesL lines Zb).take (Int.toNat v64)).getD (Int.toNat v89) default).getD (Int.toNat 1) default).toList==(((linesL lines Zb).getD (Int.toNat v64) default).getD (Int.toNat 1) default).toList)=true=>(uu16:0<=(3:Int)/\(3:Int)<((((linesL lines Zb).take (Int.toNat v64)).getD (Int.toNat v89) default).length:Int))) (ai (fun k14:(((((linesL lines Zb).take (Int.toNat v64)).getD (Int.toNat v89) default).getD (Int.toNat 1) default).toList==(((linesL lines Zb).getD (Int.toNat v64) default).getD (Int.toNat 1) default).toList)=true=>(uu16:0<=(3:Int)/\(3:Int)<(((linesL lines Zb).getD (Int.toNat v64) default).length:Int))) (ai (fun k15:(bif (((((linesL lines Zb).take (Int.toNat v64)).getD (Int.toNat v89) default).getD (Int.toNat 1) default).toList==(((linesL lines Zb).getD (Int.toNat v64) default).getD (Int.toNat 1) default).toList) then (((((linesL lines Zb).take (Int.toNat v64)).getD (Int.toNat v89) default).getD (Int.toNat 3) default).toList==(((linesL lines Zb).getD (Int.toNat v64) default).getD (Int.toNat 3) default).toList) else false)=true=>have _:(((((linesL lines Zb).take (Int.toNat v64)).getD (Int.toNat v89) default).getD (Int.toNat 1) default).toList==(((linesL lines Zb).getD (Int.toNat v64) default).getD (Int.toNat 1) default).toList)=true:=(andT1 k15); have _:(((((linesL lines Zb).take (Int.toNat v64)).getD (Int.toNat v89) default).getD (Int.toNat 3) default).toList==(((linesL lines Zb).getD (Int.toNat v64) default).getD (Int.toNat 3) default).toList)=true:=(andT2 k15); (uu16:0<=(4:Int)/\(4:Int)<((((linesL lines Zb).take (Int.toNat v64)).getD (Int.toNat v89) default).length:Int))) (ai (fun k16:(bif (((((linesL lines Zb).take (Int.toNat v64)).getD (Int.toNat v89) default).getD (Int.toNat 1) default).toList==(((linesL lines Zb).getD (Int.toNat v64) default).getD (Int.toNat 1) default).toList) then (((((linesL lines Zb).take (Int.toNat v64)).getD (Int.toNat v89) default).getD (Int.toNat 3) default).toList==(((linesL lines Zb).getD (Int.toNat v64) default).getD (Int.toNat 3) default).toList) else false)=true=>have _:(((((linesL lines Zb).take (Int.toNat v64)).getD (Int.toNat v89) default).getD (Int.toNat 1) default).toList==(((linesL lines Zb).getD (Int.toNat v64) default).getD (Int.toNat 1) default).toList)=true:=(andT1 k16); have _:(((((linesL lines Zb).take (Int.toNat v64)).getD (Int.toNat v89) default).getD (Int.toNat 3) default).toList==(((linesL lines Zb).getD (Int.toNat v64) default).getD (Int.toNat 3) default).toList)=true:=(andT2 k16); (uu16:0<=(4:Int)/\(4:Int)<(((linesL lines Zb).getD (Int.toNat v64) default).length:Int))) (ifb (bif (bif (((((linesL lines Zb).take (Int.toNat v64)).getD (Int.toNat v89) default).getD (Int.toNat 1) default).toList==(((linesL lines Zb).getD (Int.toNat v64) default).getD (Int.toNat 1) default).toList) then (((((linesL lines Zb).take (Int.toNat v64)).getD (Int.toNat v89) default).getD (Int.toNat 3) default).toList==(((linesL lines Zb).getD (Int.toNat v64) default).getD (Int.toNat 3) default).toList) else false) then (((((linesL lines Zb).take (Int.toNat v64)).getD (Int.toNat v89) default).getD (Int.toNat 4) default).toList==(((linesL lines Zb).getD (Int.toNat v64) default).getD (Int.toNat 4) default).toList) else false) (fun h17=>have _:(((((linesL lines Zb).take (Int.toNat v64)).getD (Int.toNat v89) default).getD (Int.toNat 1) default).toList==(((linesL lines Zb).getD (Int.toNat v64) default).getD (Int.toNat 1) default).toList)=true:=(andT1 (andT1 h17)); have _:(((((linesL lines Zb).take (Int.toNat v64)).getD (Int.toNat v89) default).getD (Int.toNat 3) default).toList==(((linesL lines Zb).getD (Int.toNat v64) default).getD (Int.toNat 3) default).toList)=true:=(andT2 (andT1 h17)); have _:(((((linesL lines Zb).take (Int.toNat v64)).getD (Int.toNat v89) default).getD (Int.toNat 4) default).toList==(((linesL lines Zb).getD (Int.toNat v64) default).getD (Int.toNat 4) default).toList)=true:=(andT2 h17); fiB true (F57 lines) (condF h3 (condF h4 (finR (runL_ret hI0 (condT h6 (condF h10 (finR (runL_ret hI1 (condT h12 (condT h17 rfl))) rfl)))) rfl)))) (fun h17=>ai (iok (v89+1) uu2) (bk57_1 lines v64 i1 m1 (v89+1) hl1 (runL_next hI1 (condT h12 (condF h17 rfl))) uu20)))))))))) (fun h12 _=>have hD1_18:lX57_1 lines v64=Lp.done v89:=runL_done hI1 (condF h12 rfl); ai (iok (v64+1) uu2) (bk57_0 lines i0 m0 (v64+1) hl0 (runL_next hI0 (condT h6 (condF h10 (finD hD1_18 rfl)))) uu20))) (i1.1-1) i1.2 (un57_1 lines v64 i1 hi1)))))))))))) (fun h6 _=>have hD0_19:lX57_0 lines=Lp.done v64:=runL_done hI0 (condF h6 rfl); fiB false (F57 lines) (condF h3 (condF h4 (finD hD0_19 rfl))))) (i0.1-1) i0.2 (un57_0 lines i0 hi0)))))))))))))))))))) uu3
end Go.Proofs.YtabmhncnckahfaaGreatDoor
