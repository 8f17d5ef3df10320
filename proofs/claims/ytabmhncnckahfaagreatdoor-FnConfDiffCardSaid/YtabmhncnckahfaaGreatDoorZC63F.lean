/- The card's statement of FnConfDiff: for all arguments the law returns true, without further conditions. Texts put together: PDM5, VDM6, PDM6, PCM1, PTKC, VDM7, PCM2, VMG0, PMG0, VMG1, PMG1, VDD0, PDD1, VDD1, PDD2, C63. -/
import Derived.Test.YtabmhncnckahfaaGreatDoorRows
import Derived.Test.YtabmhncnckahfaaGreatDoorCards
import Derived.Test.YtabmhncnckahfaaGreatDoorTie
import Derived.Deep.DeepHandedRow
import Derived.Deep.DeepLaidRun
import Derived.JoinedCond
import Derived.Lib.LaidU8
import Derived.Test.YtabmhncnckahfaaGreatDoorZC63E
namespace Go.Proofs.YtabmhncnckahfaaGreatDoor
open Go.RowKit
set_option maxRecDepth 100000
set_option linter.unusedVariables false
set_option linter.unusedSimpArgs false
theorem set_szN {xs:List ByteArray} {n k:Nat} {v:ByteArray} (h:∀ q:Nat,(xs.getD q default).size≤n) (hv:v.size≤n):∀ q:Nat,((xs.set k v).getD q default).size≤n:=getD_sz fun x hx=>by
 rcases List.mem_or_eq_of_mem_set hx with hx | rfl
 ·exact mem_sz h hx
 ·exact hv
theorem app_szN {xs:List ByteArray} {n:Nat} {v:ByteArray} (h:∀ q:Nat,(xs.getD q default).size≤n) (hv:v.size≤n):∀ q:Nat,((xs++[v]).getD q default).size≤n:=getD_sz fun x hx=>by
 rcases List.mem_append.1 hx with hx | hx
 ·exact mem_sz h hx
 ·rw [List.mem_singleton.1 hx]; exact hv
theorem spoil_loop (r1:l51Rd) (lines:List ByteArray):∀ (m i:Nat) (out:List ByteArray) (r:Int),i+m=17→out.length≤17+i→(∀ q:Nat,(out.getD q default).size≤1000)→0≤r→r+m≤900000000→∀ M,m<M →
  ∃ ys i' r',runL (F49_s0 r1 lines) M (out,(i:Int),r)=.done (ys,i',r')∧ys.length≤34∧(∀ q:Nat,(ys.getD q default).size≤1000)∧r≤r'∧r'≤r+m+1
 | _,_,_,_,_,_,_,_,_,0,hM=>absurd hM (Nat.not_lt_zero _)
 | m,i,out,r,hi,hl,hz,h0,hB,M+1,hM=>by
  obtain ⟨k1,k2,k3⟩:=pick_in (⟨r1.b,r⟩:l51Rd) 2 h0 (by show r≤_; omega)
  have k2:=k2 (by decide)
  by_cases hc:(i:Int)<(16+((F48 (⟨r1.b,r⟩:l51Rd) 2).1))
  ·obtain ⟨m,rfl⟩:∃ m',m=m'+1:=⟨m-1,by omega⟩
   have e:F49_s0 r1 lines (out,(i:Int),r)=.next (F79 out (((⟨#[114,117,108,101,32,122,32]⟩:ByteArray)++(([(⟨#[49,48]⟩:ByteArray),(⟨#[49,49]⟩:ByteArray),(⟨#[49,50]⟩:ByteArray),(⟨#[49,51]⟩:ByteArray),(⟨#[49,52]⟩:ByteArray),(⟨#[49,53]⟩:ByteArray),(⟨#[49,54]⟩:ByteArray),(⟨#[49,55]⟩:ByteArray),(⟨#[49,56]⟩:ByteArray),(⟨#[49,57]⟩:ByteArray),(⟨#[50,48]⟩:ByteArray),(⟨#[50,49]⟩:ByteArray),(⟨#[50,50]⟩:ByteArray),(⟨#[50,51]⟩:ByteArray),(⟨#[50,52]⟩:ByteArray),(⟨#[50,53]⟩:ByteArray),(⟨#[50,54]⟩:ByteArray)]:List ByteArray).getD (Int.toNat (i:Int)) default))++(⟨#[32,100,101,110,121,32,48,46,48,47,48,32,48,46,48,47,48,32,48]⟩:ByteArray)),((i+1:Nat):Int),(F48 (⟨r1.b,r⟩:l51Rd) 2).2):=by
    simp only [F49_s0]
    rw [decide_eq_true hc]; rfl
   obtain ⟨ys,i',r',e1,q1,q2,q3,q4⟩:=spoil_loop r1 lines m (i+1) (F79 out (((⟨#[114,117,108,101,32,122,32]⟩:ByteArray)++(([(⟨#[49,48]⟩:ByteArray),(⟨#[49,49]⟩:ByteArray),(⟨#[49,50]⟩:ByteArray),(⟨#[49,51]⟩:ByteArray),(⟨#[49,52]⟩:ByteArray),(⟨#[49,53]⟩:ByteArray),(⟨#[49,54]⟩:ByteArray),(⟨#[49,55]⟩:ByteArray),(⟨#[49,56]⟩:ByteArray),(⟨#[49,57]⟩:ByteArray),(⟨#[50,48]⟩:ByteArray),(⟨#[50,49]⟩:ByteArray),(⟨#[50,50]⟩:ByteArray),(⟨#[50,51]⟩:ByteArray),(⟨#[50,52]⟩:ByteArray),(⟨#[50,53]⟩:ByteArray),(⟨#[50,54]⟩:ByteArray)]:List ByteArray).getD (Int.toNat (i:Int)) default))++(⟨#[32,100,101,110,121,32,48,46,48,47,48,32,48,46,48,47,48,32,48]⟩:ByteArray))) (F48 (⟨r1.b,r⟩:l51Rd) 2).2 (by omega) (by rw [put_len]; omega) (put_szN hz (szLe (app_le (app_le (lit_le _) (getD_sz (n:=2) (by decide) _)) (lit_le _)) (by decide))) (by simp only [pick_p]; omega) (by simp only [pick_p]; omega) M (by omega)
   simp only [pick_p] at q3 q4
   refine ⟨ys,i',r',?_,q1,q2,by omega,by omega⟩
   rw [runL_n _ e]
   exact e1
  ·have e:F49_s0 r1 lines (out,(i:Int),r)=.done (out,(i:Int),(F48 (⟨r1.b,r⟩:l51Rd) 2).2):=by
    simp only [F49_s0]
    rw [decide_eq_false hc]; rfl
   refine ⟨out,i,_,runL_d _ e,by omega,hz,?_,?_⟩ <;> (simp only [pick_p]; omega)
theorem spoil_q (r1:l51Rd) (lines:List ByteArray) (h0:0≤r1.p) (h1:r1.p≤800000000) (h:LQ lines):LS (F49 r1 lines).1∧0≤(F49 r1 lines).2∧(F49 r1 lines).2≤r1.p+60:=by
 have h9:∀ q:Nat,(lines.getD q default).size≤1000:=(lq_ls h).2
 have hl:=h.1
 unfold F49
 have hp:r1.p≤(bif (!((lines.length:Int)==0)) then ((F48 (⟨r1.b,r1.p⟩:l51Rd) 5).2) else r1.p)∧(bif (!((lines.length:Int)==0)) then ((F48 (⟨r1.b,r1.p⟩:l51Rd) 5).2) else r1.p)≤r1.p+1:=by
  cases ((lines.length:Int)==0)
  ·simp only [Bool.not_false,cond_true,pick_p]; omega
  ·simp only [Bool.not_true,cond_false]; omega
 generalize (bif (!((lines.length:Int)==0)) then ((F48 (⟨r1.b,r1.p⟩:l51Rd) 5).2) else r1.p)=p0 at hp ⊢
 cases hc:(bif ((lines.length:Int)==0) then true else ((F48 (⟨r1.b,r1.p⟩:l51Rd) 5).1==0)) with
 | true =>
  rw [cond_true]
  obtain ⟨ys,i',r',e1,q1,q2,q3,q4⟩:=spoil_loop r1 lines 17 0 lines p0 (by omega) (by omega) h9 (by omega) (by omega) (Int.toNat (17-0)+1) (by decide)
  rw [show (lines,(0:Int),p0)=(lines,((0:Nat):Int),p0) from rfl,e1]
  refine ⟨⟨by show ys.length≤40; omega,q2⟩,?_,?_⟩ <;> (simp only [Lp.fin,pick_p]; omega)
 | false =>
  have hne:¬ (lines.length:Int)=0:=fun e=>by
   rw [show ((lines.length:Int)==0)=true from beq_iff_eq.2 e,cond_true] at hc; cases hc
  rw [cond_false]
  obtain ⟨k1,k2,k3⟩:=pick_in (⟨r1.b,p0⟩:l51Rd) (lines.length:Int) (by show 0≤p0; omega) (by show p0≤_; omega)
  have k2:=k2 (by omega)
  obtain ⟨z1,z2,z3⟩:=dline_all (⟨r1.b,(F48 (⟨r1.b,(F48 (⟨r1.b,p0⟩:l51Rd) (lines.length:Int)).2⟩:l51Rd) 4).2⟩:l51Rd)
  simp only [pick_p] at z2 z3
  have hw:=without_len lines _ k1 k2 (by omega)
  apply cond_P (P:=fun z:List ByteArray×Int=>LS z.1∧0≤z.2∧z.2≤r1.p+60)
  ·refine ⟨⟨by rw [List.length_set]; omega,set_szN h9 (szLe (app_le (h.2 _) (of_le (n:=80) _ _ (by decide))) (by decide))⟩,?_,?_⟩ <;> (simp only [of_p,pick_p]; omega)
  apply cond_P (P:=fun z:List ByteArray×Int=>LS z.1∧0≤z.2∧z.2≤r1.p+60)
  ·refine ⟨⟨by rw [List.length_append]; simp only [List.length_cons,List.length_nil]; omega,app_szN h9 (h9 _)⟩,?_,?_⟩ <;> (simp only [pick_p]; omega)
  apply cond_P (P:=fun z:List ByteArray×Int=>LS z.1∧0≤z.2∧z.2≤r1.p+60)
  ·refine ⟨⟨by rw [List.length_set]; omega,set_szN h9 (szLe (of_le (n:=80) _ _ (by decide)) (by decide))⟩,?_,?_⟩ <;> (simp only [of_p,pick_p]; omega)
  ·refine ⟨⟨by rw [put_len]; omega,put_szN (without_szN _ h9) (Nat.le_trans z1 (by decide))⟩,?_,?_⟩ <;> (simp only [pick_p] at z2 z3 ⊢; omega)
theorem kc72l (X_:SV) (b_:List Int) (pp_:Int) (lines:List ByteArray) {K_:Prop} (p0_:0≤pp_) (p1_:pp_≤800000000) (p2_:b_.length≤2000) (p3_:LQ lines) (q0_:0≤pp_) (q1_:pp_≤800000000) (q2_:LQ lines) (k_:(LQ (F72 ⟨b_,pp_⟩ lines).1∧0≤(F72 ⟨b_,pp_⟩ lines).2∧(F72 ⟨b_,pp_⟩ lines).2≤pp_+60)→K_):(0≤pp_∧pp_≤800000000∧b_.length≤2000∧LQ lines)∧(sv X_=sv X_)∧(Imp (.l 1 eByte b_) (.l 1 eByte b_))∧(Imps ([.v (vI pp_)]) ([.v (vI pp_)]))∧(Imp (.l 1 eStr lines) (.l 1 eStr lines))∧K_:=⟨⟨p0_,p1_,p2_,p3_⟩,rfl,Imp.refl _,Imps.refl _,Imp.refl _,k_ (near_q (⟨b_,pp_⟩:l51Rd) lines q0_ q1_ q2_)⟩
abbrev kh72l (X_:SV) (g_:Nat) (b_:List Int) (pp_:Int) (lines:List ByteArray):Hint true Tryz.prog:=.call 72 (S72 X_ g_ (⟨b_,pp_⟩:l51Rd) lines) (ok72 X_ g_ (⟨b_,pp_⟩:l51Rd) lines) none
theorem kc49l (X_:SV) (b_:List Int) (pp_:Int) (lines:List ByteArray) {K_:Prop} (p0_:0≤pp_) (p1_:pp_≤800000000) (p2_:b_.length≤2000) (p3_:LQ lines) (q0_:0≤pp_) (q1_:pp_≤800000000) (q2_:LQ lines) (k_:(LS (F49 ⟨b_,pp_⟩ lines).1∧0≤(F49 ⟨b_,pp_⟩ lines).2∧(F49 ⟨b_,pp_⟩ lines).2≤pp_+60)→K_):(0≤pp_∧pp_≤800000000∧b_.length≤2000∧LQ lines)∧(sv X_=sv X_)∧(Imp (.l 1 eByte b_) (.l 1 eByte b_))∧(Imps ([.v (vI pp_)]) ([.v (vI pp_)]))∧(Imp (.l 1 eStr lines) (.l 1 eStr lines))∧K_:=⟨⟨p0_,p1_,p2_,p3_⟩,rfl,Imp.refl _,Imps.refl _,Imp.refl _,k_ (spoil_q (⟨b_,pp_⟩:l51Rd) lines q0_ q1_ q2_)⟩
abbrev kh49l (X_:SV) (g_:Nat) (b_:List Int) (pp_:Int) (lines:List ByteArray):Hint true Tryz.prog:=.call 49 (S49 X_ g_ (⟨b_,pp_⟩:l51Rd) lines) (ok49 X_ g_ (⟨b_,pp_⟩:l51Rd) lines) none



def F12_s0 (a:List ByteArray) (b:List ByteArray):Int→Lp Int Bool:=fun i40 =>
 bif (decide (i40<(a.length:Int))) then (bif (!((a.getD (Int.toNat i40) default).toList==(b.getD (Int.toNat i40) default).toList)) then (.ret false) else (.next (i40+1))) else (.done i40)
def F12 (a:List ByteArray) (b:List ByteArray):Bool :=
 bif ((a.length:Int) != (b.length:Int)) then false else ((runL (F12_s0 a b) ((Int.toNat ((a.length:Int)-0))+1) 0).fin (fun r=>r) (fun i40=>true))
abbrev lN12_0 (a:List ByteArray):Nat×Int:=(((Int.toNat ((a.length:Int)-0))+1),0)
abbrev lI12_0 (a:List ByteArray) (m39:Nat) (i40:Int):Prop:=Int.toNat ((a.length:Int)-i40)<m39∧(0:Int)≤i40
abbrev lX12_0 (a:List ByteArray) (b:List ByteArray):Lp Int Bool:=LpX (F12_s0 a b) (lN12_0 a)
abbrev lJ12_0 (a:List ByteArray) (b:List ByteArray) (i:Nat×Int):Prop:=LpJ (F12_s0 a b) (lN12_0 a) i (lI12_0 a i.1 i.2)
abbrev lH12_0 (a:List ByteArray) (b:List ByteArray) (i:Nat×Int) (m39:Nat) (i40:Int):Prop:=LpH (F12_s0 a b) (lN12_0 a) i m39 i40 (lI12_0 a (m39+1) i40)
abbrev lE12_0 (a:List ByteArray) (b:List ByteArray) (i40:Int) (i40_:Int) (K39:Prop):Prop:=((.int .i64 i40:Value)=.int .i64 i40_)∧(Im (.l 1 eStr a))∧(Im (.l 1 eStr b))∧K39
theorem un12_0 (a:List ByteArray) (b:List ByteArray) (i:Nat×Int) (h:lJ12_0 a b i):lH12_0 a b i (i.1-1) i.2:=⟨hd1 h.1 h.2.1,hd3 h.2.1,hd2 h.2.1,h.2.2⟩
theorem bk12_0 (a:List ByteArray) (b:List ByteArray) (i:Nat×Int) (m39:Nat) (i40:Int) (hl:m39<i.1) (e:runL (F12_s0 a b) m39 i40=lX12_0 a b) (h:lI12_0 a m39 i40):∃ j:Nat×Int,lE12_0 a b i40 j.2 (lJ12_0 a b j∧j.1<i.1):=⟨(m39,i40),rfl,Imp.refl _,Imp.refl _,⟨e,h⟩,hl⟩
theorem en12_0 (a:List ByteArray) (b:List ByteArray) (h:(0:Int)≤0):lE12_0 a b 0 0 (lJ12_0 a b (lN12_0 a)):=⟨rfl,Imp.refl _,Imp.refl _,rfl,Nat.lt_succ_self _,h⟩
def S12 (R:Bool) (a:List ByteArray) (b:List ByteArray):Spec:=⟨[.r (.c (.l 1 eStr a)),.r (.c (.l 1 eStr b))],.v (.bool R),True⟩
theorem ok12 (a:List ByteArray) (b:List ByteArray):(S12 (F12 a b) a b).ok Tryz.prog 12 :=
 fnG_ok mixed (fn:=Tryz.f12) (ct:=.seqk [(0,0),(1,0)] .no (.seq (.seq .no (.cond (.seq .no .no) .no)) (.seq (.seqk [(0,0),(1,0)] .no (.blk (.loop (ι:=Nat×Int) (fun i=>(fun (i40:Int)=>(⟨[(0,some (.h 0 0)),(1,some (.h 1 0)),(5,some (.v (vI i40)))],[(0,some (.shr none (.l 1 eStr a))),(1,some (.shr none (.l 1 eStr b)))],2⟩:St)) i.2) (lJ12_0 a b) (fun i=>i.1) (lN12_0 a) (fun i=>(fun (i40:Int)=>(.seq (.seq .no (.cond .no .no)) (.seq (.blk (.seq .no (.cond (.seq .no .no) .no))) (.reg [(1,.bnd)])))) i.2)))) (.seq .no .no)))) Tryz.func12 (fun (_:True)=>kn a fun _=>kn b fun _=>ifn (a.length:Int) (b.length:Int) (fun h1 _=>fiB false (F12 a b) (condT h1 rfl)) (fun h1 _=>kn a fun _=>kn b fun _=>ai (en12_0 a b (by omega)) (fun (i0:Nat×Int) (hi0:lJ12_0 a b i0)=>(fun (m0:Nat) (i40:Int) (hh0:lH12_0 a b i0 m0 i40)=>have hI0:=hh0.1; have hl0:=hh0.2.1; have _:=hh0.2.2.1; have _:=hh0.2.2.2; ifd (i40<(a.length:Int)) (fun h3 _=>ai (by omega:ib i40 a) (ai (by omega:ib i40 b) (ifb (!((a.getD (Int.toNat i40) default).toList==(b.getD (Int.toNat i40) default).toList)) (fun h4=>fiB false (F12 a b) (condF h1 (finR (runL_ret hI0 (condT h3 (condT h4 rfl))) rfl))) (fun h4=>ai (iok (i40+1) (by omega)) (bk12_0 a b i0 m0 (i40+1) hl0 (runL_next hI0 (condT h3 (condF h4 rfl))) (by refine ⟨?_,?_⟩ <;> omega)))))) (fun h3 _=>have hD0_5:lX12_0 a b=Lp.done i40:=runL_done hI0 (condF h3 rfl); fiB true (F12 a b) (condF h1 (finD hD0_5 rfl)))) (i0.1-1) i0.2 (un12_0 a b i0 hi0)))) (by kernel_rfl)
theorem as12 (a:List ByteArray) (b:List ByteArray):F12 a b=(decide (a=b)):=by
 exact eq_loop (fun x y=>decide (x=y)) (fun _ _=>rfl) a b (F12_s0 a b) (fun i=>by simp only [F12_s0,neI,neB,neS])
theorem oa12 (a:List ByteArray) (b:List ByteArray):(S12 (decide (a=b)) a b).ok Tryz.prog 12:=by
 intro hp; have h:=ok12 a b hp; rw [as12 a b] at h; exact h
theorem kc12a (a:List ByteArray) (b:List ByteArray) {K_:Prop} (k_:K_):(True)∧(Imp (.l 1 eStr a) (.l 1 eStr a))∧(Imp (.l 1 eStr b) (.l 1 eStr b))∧K_:=⟨trivial,Imp.refl _,Imp.refl _,k_⟩
abbrev kh12af (a:List ByteArray) (b:List ByteArray):Hint false Tryz.prog:=.call 12 (S12 (decide (a=b)) a b) ((oa12 a b).to false) none
theorem fin_R {σ ρ τ:Type} (step:σ→Lp σ ρ) (R:τ→Prop) (f:ρ→τ) (g:σ→τ) (hr:∀ s r,step s=.ret r→R (f r)) (hg:∀ s,R (g s)):∀ (M:Nat) (s:σ),R ((runL step M s).fin f g)
 | 0,s=>hg s
 | M+1,s=>by
  cases h:step s with
  | next s'=>rw [runL_n _ h]; exact fin_R step R f g hr hg M s'
  | done s'=>rw [runL_d _ h]; exact hg s'
  | ret r=>rw [runL_r _ h]; exact hr s r h
theorem fin_of {σ ρ τ:Type} {x:Lp σ ρ} {s:σ} (h:x.fin (fun _=>none) some=some s) (f:ρ→τ) (g:σ→τ):x.fin f g=g s:=by
 cases x with
 | ret r=>cases h
 | done s'=>cases h; rfl
 | next s'=>cases h; rfl
def F76_s0 (keys:List ByteArray) (lines:List ByteArray):(List ByteArray×Int)→Lp (List ByteArray×Int) (List ByteArray):=fun (out,i40) =>
 bif (decide (i40<(lines.length:Int))) then (bif (!(F84 out (F14 (lines.getD i40.toNat default)))) then (.next ((out++[(F14 (lines.getD i40.toNat default))]),(i40+1))) else (.next (out,(i40+1)))) else (.done (out,i40))
def F76 (keys:List ByteArray) (lines:List ByteArray):List ByteArray :=
 (runL (F76_s0 keys lines) (((lines.length:Int)-0).toNat+1) ((([]:List ByteArray)++keys),0)).fin (fun r=>r) (fun (out,i40)=>out)
abbrev lN76_0 (keys:List ByteArray) (lines:List ByteArray):Nat×(List ByteArray×Int):=((((lines.length:Int)-0).toNat+1),((([]:List ByteArray)++keys),0))
abbrev lI76_0 (keys:List ByteArray) (lines:List ByteArray) (m39:Nat) (out:List ByteArray) (i40:Int):Prop:=Int.toNat ((lines.length:Int)-i40)<m39∧(out.length:Int)≤(keys.length:Int)+i40∧(0:Int)≤i40
abbrev lX76_0 (keys:List ByteArray) (lines:List ByteArray):Lp (List ByteArray×Int) (List ByteArray):=LpX (F76_s0 keys lines) (lN76_0 keys lines)
abbrev lJ76_0 (keys:List ByteArray) (lines:List ByteArray) (i:Nat×(List ByteArray×Int)):Prop:=LpJ (F76_s0 keys lines) (lN76_0 keys lines) i (lI76_0 keys lines i.1 i.2.1 i.2.2)
abbrev lH76_0 (keys:List ByteArray) (lines:List ByteArray) (i:Nat×(List ByteArray×Int)) (m39:Nat) (out:List ByteArray) (i40:Int):Prop:=LpH (F76_s0 keys lines) (lN76_0 keys lines) i m39 (out,i40) (lI76_0 keys lines (m39+1) out i40)
abbrev lE76_0 (lines:List ByteArray) (out:List ByteArray) (i40:Int) (out_:List ByteArray) (i40_:Int) (K39:Prop):Prop:=((.int .i64 i40:Value)=.int .i64 i40_)∧(Im (.l 1 eStr lines))∧(Imp (.l 1 eStr out) (.l 1 eStr out_))∧K39
theorem un76_0 (keys:List ByteArray) (lines:List ByteArray) (i:Nat×(List ByteArray×Int)) (h:lJ76_0 keys lines i):lH76_0 keys lines i (i.1-1) i.2.1 i.2.2:=⟨hd1 h.1 h.2.1,hd3 h.2.1,hd2 h.2.1,h.2.2⟩
theorem bk76_0 (keys:List ByteArray) (lines:List ByteArray) (i:Nat×(List ByteArray×Int)) (m39:Nat) (out:List ByteArray) (i40:Int) (hl:m39<i.1) (e:runL (F76_s0 keys lines) m39 (out,i40)=lX76_0 keys lines) (h:lI76_0 keys lines m39 out i40):∃ j:Nat×(List ByteArray×Int),lE76_0 lines out i40 j.2.1 j.2.2 (lJ76_0 keys lines j∧j.1<i.1):=⟨(m39,(out,i40)),rfl,Imp.refl _,Imp.refl _,⟨e,h⟩,hl⟩
theorem en76_0 (keys:List ByteArray) (lines:List ByteArray) (h:((([]:List ByteArray)++keys).length:Int)≤(keys.length:Int)+0∧(0:Int)≤0):lE76_0 lines (([]:List ByteArray)++keys) 0 (([]:List ByteArray)++keys) 0 (lJ76_0 keys lines (lN76_0 keys lines)):=⟨rfl,Imp.refl _,Imp.refl _,rfl,Nat.lt_succ_self _,h⟩
theorem fi76 (keys:List ByteArray) (lines:List ByteArray) (r:List ByteArray) (hF:r=(F76 keys lines)):(Imp (.l 1 eStr r) (.l 1 eStr (F76 keys lines)))∧True:=by cases hF; exact ⟨Imp.refl _,trivial⟩
def S76 (keys:List ByteArray) (lines:List ByteArray):Spec:=⟨[.r (.c (.l 1 eStr keys)),.r (.c (.l 1 eStr lines))],.ow (.l 1 eStr (F76 keys lines)),keys.length≤1000∧lines.length≤1000∧(∀ k:Nat,(lines.getD k default).size≤1048576)⟩
theorem ok76 (keys:List ByteArray) (lines:List ByteArray):(S76 keys lines).ok Tryz.prog 76 :=
 fnG_ok mixed (fn:=Tryz.f76) (ct:=.seqk [(0,0),(1,0)] .no (.seq (.reg [(0,.dat (.l 1 eStr ([]:List ByteArray))),(2,.dat (.l 1 eStr (([]:List ByteArray)++keys)))]) (.seq (.seqk [(1,0),(5,0)] .no (.blk (.loop (ι:=Nat×(List ByteArray×Int)) (fun i=>(fun (out:List ByteArray) (i40:Int)=>(⟨[(1,some (.h 0 0)),(5,some (.h 1 0)),(6,some (.v (vI i40)))],[(0,some (.shr none (.l 1 eStr lines))),(1,some (.own 1 (.l 1 eStr out)))],2⟩:St)) i.2.1 i.2.2) (lJ76_0 keys lines) (fun i=>i.1) (lN76_0 keys lines) (fun i=>(fun (out:List ByteArray) (i40:Int)=>(.seq (.seq .no (.cond .no .no)) (.seq (.blk (.seq (.reg [(5,kh14 (lines.getD i40.toNat default)),(6,kh84 out (F14 (lines.getD i40.toNat default)))]) (.cond (.reg [(5,kh14 (lines.getD i40.toNat default)),(7,.dat (.l 1 eStr (out++[(F14 (lines.getD i40.toNat default))])))]) .no))) (.reg [(1,.bnd)])))) i.2.1 i.2.2)))) (.seq .no .no)))) Tryz.func76 (fun (hp:keys.length≤1000∧lines.length≤1000∧(∀ k:Nat,(lines.getD k default).size≤1048576))=>have hpre0:=hp.1; have hpre1:=hp.2.1; have hpre2:=hp.2.2; kn keys fun _=>kn lines fun _=>ai (bokr 1 eStr ([]:List ByteArray) fun _=>rfl) (ai (AppL.mk eStr ([]:List ByteArray) keys (Imp.refl (.l 1 eStr ([]:List ByteArray))) ir (fun y=>⟨rfl,fun e he=>by simp only [eStr,List.mem_cons,List.not_mem_nil,or_false] at he; rcases he with rfl <;> exact ⟨_,rfl⟩⟩):AppL (.l 1 eStr ([]:List ByteArray)) (.l 1 eStr keys) 1 (.l 1 eStr (([]:List ByteArray)++keys))) (ai (by (try simp only [lens]); omega:(([]:List ByteArray)++keys).length*16≤140737488355328) (kn lines fun _=>kn (([]:List ByteArray)++keys) fun _=>ai (en76_0 keys lines (by refine ⟨?_,?_⟩ <;> first | omega | (simp only [lens,ib] at*<;> omega) | omega | (simp only [Bool.cond_true_left,Bool.cond_false_right,Bool.or_eq_true,Bool.and_eq_true,Bool.or_eq_false_iff,Bool.and_eq_false_iff,decide_eq_true_eq,decide_eq_false_iff_not,beq_iff_eq,beq_eq_false_iff_ne,List.length_append,List.length_cons,List.length_nil] at *; omega))) (fun (i0:Nat×(List ByteArray×Int)) (hi0:lJ76_0 keys lines i0)=>(fun (m0:Nat) (out:List ByteArray) (i40:Int) (hh0:lH76_0 keys lines i0 m0 out i40)=>have hI0:=hh0.1; have hl0:=hh0.2.1; have _:=hh0.2.2.1; have _:=hh0.2.2.2; ifd (i40<(lines.length:Int)) (fun h2 _=>ai (by first | omega | (simp only [lens,ib] at*<;> omega):ib i40 lines) (kc14 (lines.getD i40.toNat default) (by first | omega | exact hpre2 _ | (intros; exact trivial) | (intros; exact Nat.zero_le _)) (kc84 out (F14 (lines.getD i40.toNat default)) (ifb (!(F84 out (F14 (lines.getD i40.toNat default)))) (fun h3=>ai (by first | omega | (simp only [lens,ib] at*<;> omega):ib i40 lines) (kc14 (lines.getD i40.toNat default) (by first | omega | exact hpre2 _ | (intros; exact trivial) | (intros; exact Nat.zero_le _)) (ai (appr 1 eStr out [(F14 (lines.getD i40.toNat default))] fun _=>rfl) (ai (by (try simp only [lens]); omega:(out++[(F14 (lines.getD i40.toNat default))]).length*16≤140737488355328) (ai (iok (i40+1) (by first | omega | (simp only [lens,ib] at*<;> omega))) (bk76_0 keys lines i0 m0 (out++[(F14 (lines.getD i40.toNat default))]) (i40+1) hl0 (runL_next hI0 (condT h2 (condT h3 rfl))) (by refine ⟨?_,?_,?_⟩ <;> first | omega | (simp only [lens,ib] at*<;> omega) | omega | (simp only [Bool.cond_true_left,Bool.cond_false_right,Bool.or_eq_true,Bool.and_eq_true,Bool.or_eq_false_iff,Bool.and_eq_false_iff,decide_eq_true_eq,decide_eq_false_iff_not,beq_iff_eq,beq_eq_false_iff_ne,List.length_append,List.length_cons,List.length_nil] at *; omega)))))))) (fun h3=>ai (iok (i40+1) (by first | omega | (simp only [lens,ib] at*<;> omega))) (bk76_0 keys lines i0 m0 out (i40+1) hl0 (runL_next hI0 (condT h2 (condF h3 rfl))) (by refine ⟨?_,?_,?_⟩ <;> first | omega | (simp only [lens,ib] at*<;> omega) | omega | (simp only [Bool.cond_true_left,Bool.cond_false_right,Bool.or_eq_true,Bool.and_eq_true,Bool.or_eq_false_iff,Bool.and_eq_false_iff,decide_eq_true_eq,decide_eq_false_iff_not,beq_iff_eq,beq_eq_false_iff_ne,List.length_append,List.length_cons,List.length_nil] at *; omega)))))))) (fun h2 _=>have hD0_4:lX76_0 keys lines=Lp.done (out,i40):=runL_done hI0 (condF h2 rfl); fi76 keys lines out (finD hD0_4 rfl))) (i0.1-1) i0.2.1 i0.2.2 (un76_0 keys lines i0 hi0)))))) (by kernel_rfl)
def F77 (b:ByteArray) (m:ByteArray) (t:ByteArray):ByteArray×Bool :=
 bif (m.toList==b.toList) then (t,true) else (bif (bif (t.toList==b.toList) then true else (t.toList==m.toList)) then (m,true) else ((⟨#[]⟩:ByteArray),false))
theorem fi77 (b:ByteArray) (m:ByteArray) (t:ByteArray) (r:ByteArray×Bool) (hF:r=(F77 b m t)):((.string r.1:Value)=.string (F77 b m t).1)∧((.bool r.2:Value)=.bool (F77 b m t).2)∧True:=by cases hF; exact ⟨rfl,rfl,trivial⟩
def S77 (b:ByteArray) (m:ByteArray) (t:ByteArray):Spec:=⟨[.r (.c (.v (.string b))),.r (.c (.v (.string m))),.r (.c (.v (.string t)))],.tu [.v (.string (F77 b m t).1),.v (.bool (F77 b m t).2)],True⟩
theorem ok77 (b:ByteArray) (m:ByteArray) (t:ByteArray):(S77 b m t).ok Tryz.prog 77 :=
 fnG_ok mixed (fn:=Tryz.f77) (ct:=.seq .no (.seq (.blk (.seq .no (.cond (.seq .no .no) (.seq .no (.cond (.seq .no .no) .no))))) (.seq .no .no))) Tryz.func77 (fun (_:True)=>ifb (m.toList==b.toList) (fun h1=>fi77 b m t (t,true) (condT h1 rfl)) (fun h1=>ifb (bif (t.toList==b.toList) then true else (t.toList==m.toList)) (fun h2=>fi77 b m t (m,true) (condF h1 (condT h2 rfl))) (fun h2=>have _:=(orF1 h2); have _:=(orF2 h2); fi77 b m t (w13_,false) (condF h1 (condF h2 rfl))))) (by kernel_rfl)
theorem keys_len (keys lines:List ByteArray):(F76 keys lines).length≤keys.length+lines.length:=by
 unfold F76
 have h:=runL_rule (step:=F76_s0 keys lines) (fun (k:Nat) (s:List ByteArray)=>(s,(k:Int))) lines.length (fun k s=>s.length≤keys.length+k) (fun _=>False)
  (fun k s hk hs=>.inl (by
   simp only [F76_s0,ltD hk,cond_true,nn]
   cases F84 s (F14 (lines.getD k default))
   ·exact ⟨_,rfl,by rw [List.length_append,List.length_singleton]; omega⟩
   ·exact ⟨_,rfl,by omega⟩))
  (fun s hs=>by simp only [F76_s0,geD,cond_false]) lines.length 0 (([]:List ByteArray)++keys) (by omega) (by simp) (Int.toNat ((lines.length:Int)-0)+1) (by omega)
 rcases h with ⟨s',e1,h1⟩ | ⟨_,_,hr⟩
 ·rw [show ((([]:List ByteArray)++keys,(0:Int)))=((([]:List ByteArray)++keys),((0:Nat):Int)) from rfl,e1]
  exact h1
 ·exact hr.elim
theorem neat3_len {a b c:List ByteArray} (h:(bif (bif (F58 a != 0) then true else (F58 b != 0)) then true else (F58 c != 0))=false):a.length≤16∧b.length≤16∧c.length≤16:=by
 cases h1:(F58 a != 0) with
 | true=>rw [h1] at h; cases h
 | false =>
  rw [h1,cond_false] at h
  cases h2:(F58 b != 0) with
  | true=>rw [h2] at h; cases h
  | false =>
   rw [h2,cond_false] at h
   exact ⟨neat_len a (by simpa using h1),neat_len b (by simpa using h2),neat_len c (by simpa using h)⟩
theorem one_sz {b m t:ByteArray} {n:Nat} (hm:m.size≤n) (ht:t.size≤n):(F77 b m t).1.size≤n:=by
 unfold F77
 cases (m.toList==b.toList)
 ·cases (bif (t.toList==b.toList) then true else (t.toList==m.toList))
  ·exact Nat.zero_le _
  ·exact hm
 ·exact ht
theorem kc76l (keys:List ByteArray) (lines:List ByteArray) {K_:Prop} (p0_:keys.length≤1000) (p1_:lines.length≤1000) (p2_:∀ k:Nat,(lines.getD k default).size≤1048576) (k_:((F76 keys lines).length≤keys.length+lines.length)→K_):(keys.length≤1000∧lines.length≤1000∧(∀ k:Nat,(lines.getD k default).size≤1048576))∧(Imp (.l 1 eStr keys) (.l 1 eStr keys))∧(Imp (.l 1 eStr lines) (.l 1 eStr lines))∧K_:=⟨⟨p0_,p1_,p2_⟩,Imp.refl _,Imp.refl _,k_ (keys_len keys lines)⟩
abbrev kh76l (keys:List ByteArray) (lines:List ByteArray):Hint true Tryz.prog:=.call 76 (S76 keys lines) (ok76 keys lines) none
theorem kc77 (b:ByteArray) (m:ByteArray) (t:ByteArray) {K_:Prop} (k_:K_):(True)∧(Imp (.v (.string b)) (.v (.string b)))∧(Imp (.v (.string m)) (.v (.string m)))∧(Imp (.v (.string t)) (.v (.string t)))∧K_:=⟨trivial,Imp.refl _,Imp.refl _,Imp.refl _,k_⟩
abbrev kh77 (b:ByteArray) (m:ByteArray) (t:ByteArray):Hint true Tryz.prog:=.call 77 (S77 b m t) (ok77 b m t) none
def F27_s0 (base:List ByteArray) (mine:List ByteArray) (theirs:List ByteArray):(List ByteArray×Int)→Lp (List ByteArray×Int) (List ByteArray×Int):=fun (out,i40) =>
 bif (decide (i40<((F76 (F76 (F76 ([]:List ByteArray) base) mine) theirs).length:Int))) then (bif (!(F77 (F78 base ((F76 (F76 (F76 ([]:List ByteArray) base) mine) theirs).getD i40.toNat default)) (F78 mine ((F76 (F76 (F76 ([]:List ByteArray) base) mine) theirs).getD i40.toNat default)) (F78 theirs ((F76 (F76 (F76 ([]:List ByteArray) base) mine) theirs).getD i40.toNat default))).2) then (.ret (([]:List ByteArray),2)) else (bif (!((F77 (F78 base ((F76 (F76 (F76 ([]:List ByteArray) base) mine) theirs).getD i40.toNat default)) (F78 mine ((F76 (F76 (F76 ([]:List ByteArray) base) mine) theirs).getD i40.toNat default)) (F78 theirs ((F76 (F76 (F76 ([]:List ByteArray) base) mine) theirs).getD i40.toNat default))).1.toList==(⟨#[]⟩:ByteArray).toList)) then (.next ((F79 out (F77 (F78 base ((F76 (F76 (F76 ([]:List ByteArray) base) mine) theirs).getD i40.toNat default)) (F78 mine ((F76 (F76 (F76 ([]:List ByteArray) base) mine) theirs).getD i40.toNat default)) (F78 theirs ((F76 (F76 (F76 ([]:List ByteArray) base) mine) theirs).getD i40.toNat default))).1),(i40+1))) else (.next (out,(i40+1))))) else (.done (out,i40))
def F27 (base:List ByteArray) (mine:List ByteArray) (theirs:List ByteArray):List ByteArray×Int :=
 bif (bif (bif ((F58 base) != 0) then true else ((F58 mine) != 0)) then true else ((F58 theirs) != 0)) then (([]:List ByteArray),1) else ((runL (F27_s0 base mine theirs) ((((F76 (F76 (F76 ([]:List ByteArray) base) mine) theirs).length:Int)-0).toNat+1) (([]:List ByteArray),0)).fin (fun r=>r) (fun (out,i40)=>bif (decide ((out.length:Int)>16)) then (([]:List ByteArray),3) else (out,0)))
abbrev lN27_0 (base:List ByteArray) (mine:List ByteArray) (theirs:List ByteArray):Nat×(List ByteArray×Int):=(((((F76 (F76 (F76 ([]:List ByteArray) base) mine) theirs).length:Int)-0).toNat+1),(([]:List ByteArray),0))
abbrev lI27_0 (base:List ByteArray) (mine:List ByteArray) (theirs:List ByteArray) (m39:Nat) (out:List ByteArray) (i40:Int):Prop:=Int.toNat (((F76 (F76 (F76 ([]:List ByteArray) base) mine) theirs).length:Int)-i40)<m39∧(out.length:Int)≤i40∧(∀ k:Nat,(out.getD k default).size≤1048576)∧(0:Int)≤i40
abbrev lX27_0 (base:List ByteArray) (mine:List ByteArray) (theirs:List ByteArray):Lp (List ByteArray×Int) (List ByteArray×Int):=LpX (F27_s0 base mine theirs) (lN27_0 base mine theirs)
abbrev lJ27_0 (base:List ByteArray) (mine:List ByteArray) (theirs:List ByteArray) (i:Nat×(List ByteArray×Int)):Prop:=LpJ (F27_s0 base mine theirs) (lN27_0 base mine theirs) i (lI27_0 base mine theirs i.1 i.2.1 i.2.2)
abbrev lH27_0 (base:List ByteArray) (mine:List ByteArray) (theirs:List ByteArray) (i:Nat×(List ByteArray×Int)) (m39:Nat) (out:List ByteArray) (i40:Int):Prop:=LpH (F27_s0 base mine theirs) (lN27_0 base mine theirs) i m39 (out,i40) (lI27_0 base mine theirs (m39+1) out i40)
abbrev lE27_0 (base:List ByteArray) (mine:List ByteArray) (theirs:List ByteArray) (out:List ByteArray) (i40:Int) (out_:List ByteArray) (i40_:Int) (K39:Prop):Prop:=((.int .i64 i40:Value)=.int .i64 i40_)∧(Im (.l 1 eStr base))∧(Im (.l 1 eStr mine))∧(Im (.l 1 eStr theirs))∧(Im (.l 1 eStr (F76 (F76 (F76 ([]:List ByteArray) base) mine) theirs)))∧(Imp (.l 1 eStr out) (.l 1 eStr out_))∧K39
theorem un27_0 (base:List ByteArray) (mine:List ByteArray) (theirs:List ByteArray) (i:Nat×(List ByteArray×Int)) (h:lJ27_0 base mine theirs i):lH27_0 base mine theirs i (i.1-1) i.2.1 i.2.2:=⟨hd1 h.1 h.2.1,hd3 h.2.1,hd2 h.2.1,h.2.2⟩
theorem bk27_0 (base:List ByteArray) (mine:List ByteArray) (theirs:List ByteArray) (i:Nat×(List ByteArray×Int)) (m39:Nat) (out:List ByteArray) (i40:Int) (hl:m39<i.1) (e:runL (F27_s0 base mine theirs) m39 (out,i40)=lX27_0 base mine theirs) (h:lI27_0 base mine theirs m39 out i40):∃ j:Nat×(List ByteArray×Int),lE27_0 base mine theirs out i40 j.2.1 j.2.2 (lJ27_0 base mine theirs j∧j.1<i.1):=⟨(m39,(out,i40)),rfl,Imp.refl _,Imp.refl _,Imp.refl _,Imp.refl _,Imp.refl _,⟨e,h⟩,hl⟩
theorem en27_0 (base:List ByteArray) (mine:List ByteArray) (theirs:List ByteArray) (h:(([]:List ByteArray).length:Int)≤0∧(∀ k:Nat,(([]:List ByteArray).getD k default).size≤1048576)∧(0:Int)≤0):lE27_0 base mine theirs ([]:List ByteArray) 0 ([]:List ByteArray) 0 (lJ27_0 base mine theirs (lN27_0 base mine theirs)):=⟨rfl,Imp.refl _,Imp.refl _,Imp.refl _,Imp.refl _,Imp.refl _,rfl,Nat.lt_succ_self _,h⟩
theorem fi27 (base:List ByteArray) (mine:List ByteArray) (theirs:List ByteArray) (r:List ByteArray×Int) (hF:r=(F27 base mine theirs)):(Imp (.l 1 eStr r.1) (.l 1 eStr (F27 base mine theirs).1))∧((.int .i64 r.2:Value)=.int .i64 (F27 base mine theirs).2)∧True:=by cases hF; exact ⟨Imp.refl _,rfl,trivial⟩
def S27 (base:List ByteArray) (mine:List ByteArray) (theirs:List ByteArray):Spec:=⟨[.r (.c (.l 1 eStr base)),.r (.c (.l 1 eStr mine)),.r (.c (.l 1 eStr theirs))],.tu [.ow (.l 1 eStr (F27 base mine theirs).1),.v (vI (F27 base mine theirs).2)],base.length≤1048576∧mine.length≤1048576∧theirs.length≤1048576∧(∀ k:Nat,(base.getD k default).size≤1048576)∧(∀ k:Nat,(mine.getD k default).size≤1048576)∧(∀ k:Nat,(theirs.getD k default).size≤1048576)⟩
theorem ok27 (base:List ByteArray) (mine:List ByteArray) (theirs:List ByteArray):(S27 base mine theirs).ok Tryz.prog 27 :=
 fnG_ok mixed (fn:=Tryz.f27) (ct:=.seqk [(0,0),(1,0),(2,0)] .no (.seq (.seq (.reg [(1,kh58 base),(5,kh58 mine),(10,kh58 theirs)]) (.cond (.seq (.reg [(0,.dat (.l 1 eStr ([]:List ByteArray)))]) .no) .no)) (.seq (.reg [(0,.dat (.l 1 eStr ([]:List ByteArray))),(2,kh76l ([]:List ByteArray) base),(4,kh76l (F76 ([]:List ByteArray) base) mine),(6,kh76l (F76 (F76 ([]:List ByteArray) base) mine) theirs)]) (.seq (.reg [(0,.dat (.l 1 eStr ([]:List ByteArray)))]) (.seq (.seqk [(0,0),(1,0),(2,0),(8,0),(9,0)] .no (.blk (.loop (ι:=Nat×(List ByteArray×Int)) (fun i=>(fun (out:List ByteArray) (i40:Int)=>(⟨[(0,some (.h 0 0)),(1,some (.h 1 0)),(2,some (.h 2 0)),(8,some (.h 3 0)),(9,some (.h 4 0)),(10,some (.v (vI i40)))],[(0,some (.shr none (.l 1 eStr base))),(1,some (.shr none (.l 1 eStr mine))),(2,some (.shr none (.l 1 eStr theirs))),(3,some (.own 3 (.l 1 eStr (F76 (F76 (F76 ([]:List ByteArray) base) mine) theirs)))),(4,some (.own 4 (.l 1 eStr out)))],5⟩:St)) i.2.1 i.2.2) (lJ27_0 base mine theirs) (fun i=>i.1) (lN27_0 base mine theirs) (fun i=>(fun (out:List ByteArray) (i40:Int)=>(.seq (.seq .no (.cond .no .no)) (.seq (.blk (.seq (.reg [(5,kh78 base ((F76 (F76 (F76 ([]:List ByteArray) base) mine) theirs).getD i40.toNat default)),(11,kh78 mine ((F76 (F76 (F76 ([]:List ByteArray) base) mine) theirs).getD i40.toNat default)),(17,kh78 theirs ((F76 (F76 (F76 ([]:List ByteArray) base) mine) theirs).getD i40.toNat default)),(18,kh77 (F78 base ((F76 (F76 (F76 ([]:List ByteArray) base) mine) theirs).getD i40.toNat default)) (F78 mine ((F76 (F76 (F76 ([]:List ByteArray) base) mine) theirs).getD i40.toNat default)) (F78 theirs ((F76 (F76 (F76 ([]:List ByteArray) base) mine) theirs).getD i40.toNat default)))]) (.seq (.seq .no (.cond (.seq (.reg [(0,.dat (.l 1 eStr ([]:List ByteArray)))]) .no) .no)) (.seq .no (.cond (.reg [(2,kh79 out (F77 (F78 base ((F76 (F76 (F76 ([]:List ByteArray) base) mine) theirs).getD i40.toNat default)) (F78 mine ((F76 (F76 (F76 ([]:List ByteArray) base) mine) theirs).getD i40.toNat default)) (F78 theirs ((F76 (F76 (F76 ([]:List ByteArray) base) mine) theirs).getD i40.toNat default))).1)]) .no))))) (.reg [(1,.bnd)])))) i.2.1 i.2.2)))) (.seq (.seq .no (.cond (.seq (.reg [(0,.dat (.l 1 eStr ([]:List ByteArray)))]) .no) .no)) (.seq .no .no))))))) Tryz.func27 (fun (hp:base.length≤1048576∧mine.length≤1048576∧theirs.length≤1048576∧(∀ k:Nat,(base.getD k default).size≤1048576)∧(∀ k:Nat,(mine.getD k default).size≤1048576)∧(∀ k:Nat,(theirs.getD k default).size≤1048576))=>have hpre0:=hp.1; have hpre1:=hp.2.1; have hpre2:=hp.2.2.1; have hpre3:=hp.2.2.2.1; have hpre4:=hp.2.2.2.2.1; have hpre5:=hp.2.2.2.2.2; kn base fun _=>kn mine fun _=>kn theirs fun _=>kc58 base (by first | omega | assumption | exact of_sz _ _ (by assumption) | exact one_sz (of_sz _ _ (by assumption)) (of_sz _ _ (by assumption)) | (have h1:=neat3_len (by assumption); omega) | (obtain ⟨h1,h2,h3⟩:=neat3_len (by assumption); simp only [List.length_nil] at *; omega)) (kg58 ((F58 base) != 0) false mine (fun k1=>have _:=bneF k1; (by first | omega | assumption | exact of_sz _ _ (by assumption) | exact one_sz (of_sz _ _ (by assumption)) (of_sz _ _ (by assumption)) | (have h1:=neat3_len (by assumption); omega) | (obtain ⟨h1,h2,h3⟩:=neat3_len (by assumption); simp only [List.length_nil] at *; omega))) (kg58 (bif ((F58 base) != 0) then true else ((F58 mine) != 0)) false theirs (fun k2=>have _:=bneF (orF1 k2); have _:=bneF (orF2 k2); (by first | omega | assumption | exact of_sz _ _ (by assumption) | exact one_sz (of_sz _ _ (by assumption)) (of_sz _ _ (by assumption)) | (have h1:=neat3_len (by assumption); omega) | (obtain ⟨h1,h2,h3⟩:=neat3_len (by assumption); simp only [List.length_nil] at *; omega))) (ifb (bif (bif ((F58 base) != 0) then true else ((F58 mine) != 0)) then true else ((F58 theirs) != 0)) (fun h3=>ai (bokr 1 eStr ([]:List ByteArray) fun _=>rfl) (fi27 base mine theirs (([]:List ByteArray),1) (condT h3 rfl))) (fun h3=>have _:=bneF (orF1 (orF1 h3)); have _:=bneF (orF2 (orF1 h3)); have _:=bneF (orF2 h3); ai (bokr 1 eStr ([]:List ByteArray) fun _=>rfl) (kc76l ([]:List ByteArray) base (by first | omega | assumption | exact of_sz _ _ (by assumption) | exact one_sz (of_sz _ _ (by assumption)) (of_sz _ _ (by assumption)) | (have h1:=neat3_len (by assumption); omega) | (obtain ⟨h1,h2,h3⟩:=neat3_len (by assumption); simp only [List.length_nil] at *; omega)) (by first | omega | assumption | exact of_sz _ _ (by assumption) | exact one_sz (of_sz _ _ (by assumption)) (of_sz _ _ (by assumption)) | (have h1:=neat3_len (by assumption); omega) | (obtain ⟨h1,h2,h3⟩:=neat3_len (by assumption); simp only [List.length_nil] at *; omega)) (by first | omega | assumption | exact of_sz _ _ (by assumption) | exact one_sz (of_sz _ _ (by assumption)) (of_sz _ _ (by assumption)) | (have h1:=neat3_len (by assumption); omega) | (obtain ⟨h1,h2,h3⟩:=neat3_len (by assumption); simp only [List.length_nil] at *; omega)) (fun gv4=>kc76l (F76 ([]:List ByteArray) base) mine (by first | omega | assumption | exact of_sz _ _ (by assumption) | exact one_sz (of_sz _ _ (by assumption)) (of_sz _ _ (by assumption)) | (have h1:=neat3_len (by assumption); omega) | (obtain ⟨h1,h2,h3⟩:=neat3_len (by assumption); simp only [List.length_nil] at *; omega)) (by first | omega | assumption | exact of_sz _ _ (by assumption) | exact one_sz (of_sz _ _ (by assumption)) (of_sz _ _ (by assumption)) | (have h1:=neat3_len (by assumption); omega) | (obtain ⟨h1,h2,h3⟩:=neat3_len (by assumption); simp only [List.length_nil] at *; omega)) (by first | omega | assumption | exact of_sz _ _ (by assumption) | exact one_sz (of_sz _ _ (by assumption)) (of_sz _ _ (by assumption)) | (have h1:=neat3_len (by assumption); omega) | (obtain ⟨h1,h2,h3⟩:=neat3_len (by assumption); simp only [List.length_nil] at *; omega)) (fun gv5=>kc76l (F76 (F76 ([]:List ByteArray) base) mine) theirs (by first | omega | assumption | exact of_sz _ _ (by assumption) | exact one_sz (of_sz _ _ (by assumption)) (of_sz _ _ (by assumption)) | (have h1:=neat3_len (by assumption); omega) | (obtain ⟨h1,h2,h3⟩:=neat3_len (by assumption); simp only [List.length_nil] at *; omega)) (by first | omega | assumption | exact of_sz _ _ (by assumption) | exact one_sz (of_sz _ _ (by assumption)) (of_sz _ _ (by assumption)) | (have h1:=neat3_len (by assumption); omega) | (obtain ⟨h1,h2,h3⟩:=neat3_len (by assumption); simp only [List.length_nil] at *; omega)) (by first | omega | assumption | exact of_sz _ _ (by assumption) | exact one_sz (of_sz _ _ (by assumption)) (of_sz _ _ (by assumption)) | (have h1:=neat3_len (by assumption); omega) | (obtain ⟨h1,h2,h3⟩:=neat3_len (by assumption); simp only [List.length_nil] at *; omega)) (fun gv6=>ai (bokr 1 eStr ([]:List ByteArray) fun _=>rfl) (kn base fun _=>kn mine fun _=>kn theirs fun _=>kn (F76 (F76 (F76 ([]:List ByteArray) base) mine) theirs) fun _=>kn ([]:List ByteArray) fun _=>ai (en27_0 base mine theirs (by refine ⟨?_,?_,?_⟩ <;> first | omega | (simp only [lens,ib] at*<;> omega) | exact sz_nil | assumption | exact put_szN (by assumption) (one_sz (of_sz _ _ (by assumption)) (of_sz _ _ (by assumption))) | (simp only [put_len] at *; omega))) (fun (i0:Nat×(List ByteArray×Int)) (hi0:lJ27_0 base mine theirs i0)=>(fun (m0:Nat) (out:List ByteArray) (i40:Int) (hh0:lH27_0 base mine theirs i0 m0 out i40)=>have hI0:=hh0.1; have hl0:=hh0.2.1; have _:=hh0.2.2.1; have _:=hh0.2.2.2.1; have _:=hh0.2.2.2.2.1; have _:=hh0.2.2.2.2.2; ifd (i40<((F76 (F76 (F76 ([]:List ByteArray) base) mine) theirs).length:Int)) (fun h8 _=>ai (by omega:ib i40 (F76 (F76 (F76 ([]:List ByteArray) base) mine) theirs)) (kc78 base ((F76 (F76 (F76 ([]:List ByteArray) base) mine) theirs).getD i40.toNat default) (by first | omega | assumption | exact of_sz _ _ (by assumption) | exact one_sz (of_sz _ _ (by assumption)) (of_sz _ _ (by assumption)) | (have h1:=neat3_len (by assumption); omega) | (obtain ⟨h1,h2,h3⟩:=neat3_len (by assumption); simp only [List.length_nil] at *; omega)) (ai (by omega:ib i40 (F76 (F76 (F76 ([]:List ByteArray) base) mine) theirs)) (kc78 mine ((F76 (F76 (F76 ([]:List ByteArray) base) mine) theirs).getD i40.toNat default) (by first | omega | assumption | exact of_sz _ _ (by assumption) | exact one_sz (of_sz _ _ (by assumption)) (of_sz _ _ (by assumption)) | (have h1:=neat3_len (by assumption); omega) | (obtain ⟨h1,h2,h3⟩:=neat3_len (by assumption); simp only [List.length_nil] at *; omega)) (ai (by omega:ib i40 (F76 (F76 (F76 ([]:List ByteArray) base) mine) theirs)) (kc78 theirs ((F76 (F76 (F76 ([]:List ByteArray) base) mine) theirs).getD i40.toNat default) (by first | omega | assumption | exact of_sz _ _ (by assumption) | exact one_sz (of_sz _ _ (by assumption)) (of_sz _ _ (by assumption)) | (have h1:=neat3_len (by assumption); omega) | (obtain ⟨h1,h2,h3⟩:=neat3_len (by assumption); simp only [List.length_nil] at *; omega)) (kc77 (F78 base ((F76 (F76 (F76 ([]:List ByteArray) base) mine) theirs).getD i40.toNat default)) (F78 mine ((F76 (F76 (F76 ([]:List ByteArray) base) mine) theirs).getD i40.toNat default)) (F78 theirs ((F76 (F76 (F76 ([]:List ByteArray) base) mine) theirs).getD i40.toNat default)) (ifb (!(F77 (F78 base ((F76 (F76 (F76 ([]:List ByteArray) base) mine) theirs).getD i40.toNat default)) (F78 mine ((F76 (F76 (F76 ([]:List ByteArray) base) mine) theirs).getD i40.toNat default)) (F78 theirs ((F76 (F76 (F76 ([]:List ByteArray) base) mine) theirs).getD i40.toNat default))).2) (fun h9=>have _:=(notET h9); ai (bokr 1 eStr ([]:List ByteArray) fun _=>rfl) (fi27 base mine theirs (([]:List ByteArray),2) (condF h3 (finR (runL_ret hI0 (condT h8 (condT h9 rfl))) rfl)))) (fun h9=>have _:=(notEF h9); ifb (!((F77 (F78 base ((F76 (F76 (F76 ([]:List ByteArray) base) mine) theirs).getD i40.toNat default)) (F78 mine ((F76 (F76 (F76 ([]:List ByteArray) base) mine) theirs).getD i40.toNat default)) (F78 theirs ((F76 (F76 (F76 ([]:List ByteArray) base) mine) theirs).getD i40.toNat default))).1.toList==w13_.toList)) (fun h10=>kc79 out (F77 (F78 base ((F76 (F76 (F76 ([]:List ByteArray) base) mine) theirs).getD i40.toNat default)) (F78 mine ((F76 (F76 (F76 ([]:List ByteArray) base) mine) theirs).getD i40.toNat default)) (F78 theirs ((F76 (F76 (F76 ([]:List ByteArray) base) mine) theirs).getD i40.toNat default))).1 (by first | omega | assumption | exact of_sz _ _ (by assumption) | exact one_sz (of_sz _ _ (by assumption)) (of_sz _ _ (by assumption)) | (have h1:=neat3_len (by assumption); omega) | (obtain ⟨h1,h2,h3⟩:=neat3_len (by assumption); simp only [List.length_nil] at *; omega)) (by first | omega | assumption | exact of_sz _ _ (by assumption) | exact one_sz (of_sz _ _ (by assumption)) (of_sz _ _ (by assumption)) | (have h1:=neat3_len (by assumption); omega) | (obtain ⟨h1,h2,h3⟩:=neat3_len (by assumption); simp only [List.length_nil] at *; omega)) (by first | omega | assumption | exact of_sz _ _ (by assumption) | exact one_sz (of_sz _ _ (by assumption)) (of_sz _ _ (by assumption)) | (have h1:=neat3_len (by assumption); omega) | (obtain ⟨h1,h2,h3⟩:=neat3_len (by assumption); simp only [List.length_nil] at *; omega)) (by first | omega | assumption | exact of_sz _ _ (by assumption) | exact one_sz (of_sz _ _ (by assumption)) (of_sz _ _ (by assumption)) | (have h1:=neat3_len (by assumption); omega) | (obtain ⟨h1,h2,h3⟩:=neat3_len (by assumption); simp only [List.length_nil] at *; omega)) (fun gv11 gv12=>ai (iok (i40+1) (by omega)) (bk27_0 base mine theirs i0 m0 (F79 out (F77 (F78 base ((F76 (F76 (F76 ([]:List ByteArray) base) mine) theirs).getD i40.toNat default)) (F78 mine ((F76 (F76 (F76 ([]:List ByteArray) base) mine) theirs).getD i40.toNat default)) (F78 theirs ((F76 (F76 (F76 ([]:List ByteArray) base) mine) theirs).getD i40.toNat default))).1) (i40+1) hl0 (runL_next hI0 (condT h8 (condF h9 (condT h10 rfl)))) (by refine ⟨?_,?_,?_,?_⟩ <;> first | omega | (simp only [lens,ib] at*<;> omega) | exact sz_nil | assumption | exact put_szN (by assumption) (one_sz (of_sz _ _ (by assumption)) (of_sz _ _ (by assumption))) | (simp only [put_len] at *; omega))))) (fun h10=>ai (iok (i40+1) (by omega)) (bk27_0 base mine theirs i0 m0 out (i40+1) hl0 (runL_next hI0 (condT h8 (condF h9 (condF h10 rfl)))) (by refine ⟨?_,?_,?_,?_⟩ <;> first | omega | (simp only [lens,ib] at*<;> omega) | exact sz_nil | assumption | exact put_szN (by assumption) (one_sz (of_sz _ _ (by assumption)) (of_sz _ _ (by assumption))) | (simp only [put_len] at *; omega))))))))))))) (fun h8 _=>have hD0_13:lX27_0 base mine theirs=Lp.done (out,i40):=runL_done hI0 (condF h8 rfl); ifd ((out.length:Int)>16) (fun h14 _=>ai (bokr 1 eStr ([]:List ByteArray) fun _=>rfl) (fi27 base mine theirs (([]:List ByteArray),3) (condF h3 (finD hD0_13 (condT h14 rfl))))) (fun h14 _=>fi27 base mine theirs (out,0) (condF h3 (finD hD0_13 (condF h14 rfl)))))) (i0.1-1) i0.2.1 i0.2.2 (un27_0 base mine theirs i0 hi0)))))))))))) (by kernel_rfl)
theorem merge_code (a b c:List ByteArray):((F27 a b c).2==1)=!((F58 a==0)&&(F58 b==0)&&(F58 c==0)):=by
 unfold F27
 have e:(bif (bif F58 a != 0 then true else F58 b != 0) then true else F58 c != 0)=!((F58 a==0)&&(F58 b==0)&&(F58 c==0)):=by
  simp only [bne]
  cases (F58 a==0) <;> cases (F58 b==0) <;> cases (F58 c==0) <;> rfl
 rw [e]
 cases ((F58 a==0)&&(F58 b==0)&&(F58 c==0)) with
 | false=>rfl
 | true =>
  rw [Bool.not_true,cond_false]
  refine fin_R _ (fun x:List ByteArray×Int=>(x.2==1)=false) _ _ (fun s r h=>?_) (fun s=>?_) _ _
  ·obtain ⟨out,i⟩:=s
   simp only [F27_s0] at h
   revert h
   cases decide (i<_)
   ·intro h; cases h
   ·rw [cond_true]
    cases (!(F77 _ _ _).2)
    ·rw [cond_false]
     cases (!((F77 _ _ _).1.toList==_))
     ·intro h; cases h
     ·intro h; cases h
    ·intro h
     have:=Lp.ret.inj h
     rw [← this]; rfl
  ·obtain ⟨out,i⟩:=s
   show ((bif decide ((out.length:Int)>16) then (([]:List ByteArray),(3:Int)) else (out,0)).2==1)=false
   cases decide ((out.length:Int)>16) <;> rfl
theorem kc50l (X_:SV) (b_:List Int) (pp_:Int) {K_:Prop} (p0_:0≤pp_) (p1_:pp_≤800000000) (p2_:b_.length≤2000) (q0_:0≤pp_) (q1_:pp_≤800000000) (k_:(LQ (F50 ⟨b_,pp_⟩).1∧0≤(F50 ⟨b_,pp_⟩).2∧(F50 ⟨b_,pp_⟩).2≤pp_+450)→K_):(0≤pp_∧pp_≤800000000∧b_.length≤2000)∧(sv X_=sv X_)∧(Imp (.l 1 eByte b_) (.l 1 eByte b_))∧(Imps ([.v (vI pp_)]) ([.v (vI pp_)]))∧K_:=⟨⟨p0_,p1_,p2_⟩,rfl,Imp.refl _,Imps.refl _,k_ (neat_q (⟨b_,pp_⟩:l51Rd) q0_ q1_)⟩
abbrev kh50l (X_:SV) (g_:Nat) (b_:List Int) (pp_:Int):Hint true Tryz.prog:=.call 50 (S50 X_ g_ (⟨b_,pp_⟩:l51Rd)) (ok50 X_ g_ (⟨b_,pp_⟩:l51Rd)) none
def F24 (Qa:SV) (code:List Int):List ByteArray×List ByteArray :=
 bif ((F48 ⟨(F33 Qa code).1.b,(F72 ⟨(F33 Qa code).1.b,(F50 ⟨(F33 Qa code).1.b,(F33 Qa code).1.p⟩).2⟩ (F50 ⟨(F33 Qa code).1.b,(F33 Qa code).1.p⟩).1).2⟩ 16).1==0) then ((F50 ⟨(F33 Qa code).1.b,(F33 Qa code).1.p⟩).1,(F49 ⟨(F33 Qa code).1.b,(F48 ⟨(F33 Qa code).1.b,(F72 ⟨(F33 Qa code).1.b,(F50 ⟨(F33 Qa code).1.b,(F33 Qa code).1.p⟩).2⟩ (F50 ⟨(F33 Qa code).1.b,(F33 Qa code).1.p⟩).1).2⟩ 16).2⟩ (F72 ⟨(F33 Qa code).1.b,(F50 ⟨(F33 Qa code).1.b,(F33 Qa code).1.p⟩).2⟩ (F50 ⟨(F33 Qa code).1.b,(F33 Qa code).1.p⟩).1).1).1) else ((F50 ⟨(F33 Qa code).1.b,(F33 Qa code).1.p⟩).1,(F72 ⟨(F33 Qa code).1.b,(F50 ⟨(F33 Qa code).1.b,(F33 Qa code).1.p⟩).2⟩ (F50 ⟨(F33 Qa code).1.b,(F33 Qa code).1.p⟩).1).1)
theorem fi24 (Qa:SV) (code:List Int) (r:List ByteArray×List ByteArray) (hF:r=(F24 Qa code)):(Imp (.l 1 eStr r.1) (.l 1 eStr (F24 Qa code).1))∧(Imp (.l 1 eStr r.2) (.l 1 eStr (F24 Qa code).2))∧True:=by cases hF; exact ⟨Imp.refl _,Imp.refl _,trivial⟩
def S24 (Qa:SV) (code:List Int):Spec:=⟨[.vl (sv Qa) (.l 1 eByte code)],.tu [.ow (.l 1 eStr (F24 Qa code).1),.ow (.l 1 eStr (F24 Qa code).2)],True⟩
theorem ok24 (Qa:SV) (code:List Int):(S24 Qa code).ok Tryz.prog 24 :=
 fnG_ok mixed (fn:=Tryz.f24) (ct:=.seqk [(0,0)] .no (.seqg 8 0 1000001 (sv (F33 Qa code).2) (.l 1 eByte (F33 Qa code).1.b) (.reg [(1,.call 33 (S33 Qa code) (ok33 Qa code) none)]) (.seq (.reg [(1,kh50l (F33 Qa code).2 1000001 (F33 Qa code).1.b (F33 Qa code).1.p)]) (.seq (.reg [(2,kh72l (F33 Qa code).2 1000001 (F33 Qa code).1.b (F50 ⟨(F33 Qa code).1.b,(F33 Qa code).1.p⟩).2 (F50 ⟨(F33 Qa code).1.b,(F33 Qa code).1.p⟩).1)]) (.seq (.seq (.reg [(1,kh48l (F33 Qa code).2 1000001 (F33 Qa code).1.b (F72 ⟨(F33 Qa code).1.b,(F50 ⟨(F33 Qa code).1.b,(F33 Qa code).1.p⟩).2⟩ (F50 ⟨(F33 Qa code).1.b,(F33 Qa code).1.p⟩).1).2 16)]) (.cond (.reg [(2,kh49l (F33 Qa code).2 1000001 (F33 Qa code).1.b (F48 ⟨(F33 Qa code).1.b,(F72 ⟨(F33 Qa code).1.b,(F50 ⟨(F33 Qa code).1.b,(F33 Qa code).1.p⟩).2⟩ (F50 ⟨(F33 Qa code).1.b,(F33 Qa code).1.p⟩).1).2⟩ 16).2 (F72 ⟨(F33 Qa code).1.b,(F50 ⟨(F33 Qa code).1.b,(F33 Qa code).1.p⟩).2⟩ (F50 ⟨(F33 Qa code).1.b,(F33 Qa code).1.p⟩).1).1)]) .no)) (.seq .no .no)))))) Tryz.func24 (fun (_:True)=>kn code fun _=>ai trivial (ai (Eq.refl (sv Qa)) (ai (Imp.refl (.l 1 eByte code)) (have gv1:(F33 Qa code).1.b.length≤2000∧(F33 Qa code).1.p=0:=open_b Qa code; ai (Eq.refl (sv (F33 Qa code).2)) (ai (gd33 Qa code) (kc50l (F33 Qa code).2 (F33 Qa code).1.b (F33 Qa code).1.p (by first | omega | assumption | decide | exact cq_lq (And.left (by assumption)) | exact And.left (by assumption) | exact cq_sz (And.left (by assumption)) | exact szLe (lit_le _) (by decide) | (have h9:=cq_len (And.left (by assumption)); omega)) (by first | omega | assumption | decide | exact cq_lq (And.left (by assumption)) | exact And.left (by assumption) | exact cq_sz (And.left (by assumption)) | exact szLe (lit_le _) (by decide) | (have h9:=cq_len (And.left (by assumption)); omega)) (by first | omega | assumption | decide | exact cq_lq (And.left (by assumption)) | exact And.left (by assumption) | exact cq_sz (And.left (by assumption)) | exact szLe (lit_le _) (by decide) | (have h9:=cq_len (And.left (by assumption)); omega)) (by first | omega | assumption | decide | exact cq_lq (And.left (by assumption)) | exact And.left (by assumption) | exact cq_sz (And.left (by assumption)) | exact szLe (lit_le _) (by decide) | (have h9:=cq_len (And.left (by assumption)); omega)) (by first | omega | assumption | decide | exact cq_lq (And.left (by assumption)) | exact And.left (by assumption) | exact cq_sz (And.left (by assumption)) | exact szLe (lit_le _) (by decide) | (have h9:=cq_len (And.left (by assumption)); omega)) (fun gv2=>kc72l (F33 Qa code).2 (F33 Qa code).1.b (F50 ⟨(F33 Qa code).1.b,(F33 Qa code).1.p⟩).2 (F50 ⟨(F33 Qa code).1.b,(F33 Qa code).1.p⟩).1 (by first | omega | assumption | decide | exact cq_lq (And.left (by assumption)) | exact And.left (by assumption) | exact cq_sz (And.left (by assumption)) | exact szLe (lit_le _) (by decide) | (have h9:=cq_len (And.left (by assumption)); omega)) (by first | omega | assumption | decide | exact cq_lq (And.left (by assumption)) | exact And.left (by assumption) | exact cq_sz (And.left (by assumption)) | exact szLe (lit_le _) (by decide) | (have h9:=cq_len (And.left (by assumption)); omega)) (by first | omega | assumption | decide | exact cq_lq (And.left (by assumption)) | exact And.left (by assumption) | exact cq_sz (And.left (by assumption)) | exact szLe (lit_le _) (by decide) | (have h9:=cq_len (And.left (by assumption)); omega)) (by first | omega | assumption | decide | exact cq_lq (And.left (by assumption)) | exact And.left (by assumption) | exact cq_sz (And.left (by assumption)) | exact szLe (lit_le _) (by decide) | (have h9:=cq_len (And.left (by assumption)); omega)) (by first | omega | assumption | decide | exact cq_lq (And.left (by assumption)) | exact And.left (by assumption) | exact cq_sz (And.left (by assumption)) | exact szLe (lit_le _) (by decide) | (have h9:=cq_len (And.left (by assumption)); omega)) (by first | omega | assumption | decide | exact cq_lq (And.left (by assumption)) | exact And.left (by assumption) | exact cq_sz (And.left (by assumption)) | exact szLe (lit_le _) (by decide) | (have h9:=cq_len (And.left (by assumption)); omega)) (by first | omega | assumption | decide | exact cq_lq (And.left (by assumption)) | exact And.left (by assumption) | exact cq_sz (And.left (by assumption)) | exact szLe (lit_le _) (by decide) | (have h9:=cq_len (And.left (by assumption)); omega)) (fun gv3=>kc48l (F33 Qa code).2 (F33 Qa code).1.b (F72 ⟨(F33 Qa code).1.b,(F50 ⟨(F33 Qa code).1.b,(F33 Qa code).1.p⟩).2⟩ (F50 ⟨(F33 Qa code).1.b,(F33 Qa code).1.p⟩).1).2 16 (by omega) (by omega) (by omega) (by omega) (by omega) (fun gv4=>have gv5:(F48 ⟨(F33 Qa code).1.b,(F72 ⟨(F33 Qa code).1.b,(F50 ⟨(F33 Qa code).1.b,(F33 Qa code).1.p⟩).2⟩ (F50 ⟨(F33 Qa code).1.b,(F33 Qa code).1.p⟩).1).2⟩ 16).1<(16:Int):=(by exact pick_lt _ _ _ (by omega) (by omega) (by omega)); ife (F48 ⟨(F33 Qa code).1.b,(F72 ⟨(F33 Qa code).1.b,(F50 ⟨(F33 Qa code).1.b,(F33 Qa code).1.p⟩).2⟩ (F50 ⟨(F33 Qa code).1.b,(F33 Qa code).1.p⟩).1).2⟩ 16).1 0 (fun h6 _=>kc49l (F33 Qa code).2 (F33 Qa code).1.b (F48 ⟨(F33 Qa code).1.b,(F72 ⟨(F33 Qa code).1.b,(F50 ⟨(F33 Qa code).1.b,(F33 Qa code).1.p⟩).2⟩ (F50 ⟨(F33 Qa code).1.b,(F33 Qa code).1.p⟩).1).2⟩ 16).2 (F72 ⟨(F33 Qa code).1.b,(F50 ⟨(F33 Qa code).1.b,(F33 Qa code).1.p⟩).2⟩ (F50 ⟨(F33 Qa code).1.b,(F33 Qa code).1.p⟩).1).1 (by first | omega | assumption | decide | exact cq_lq (And.left (by assumption)) | exact And.left (by assumption) | exact cq_sz (And.left (by assumption)) | exact szLe (lit_le _) (by decide) | (have h9:=cq_len (And.left (by assumption)); omega)) (by first | omega | assumption | decide | exact cq_lq (And.left (by assumption)) | exact And.left (by assumption) | exact cq_sz (And.left (by assumption)) | exact szLe (lit_le _) (by decide) | (have h9:=cq_len (And.left (by assumption)); omega)) (by first | omega | assumption | decide | exact cq_lq (And.left (by assumption)) | exact And.left (by assumption) | exact cq_sz (And.left (by assumption)) | exact szLe (lit_le _) (by decide) | (have h9:=cq_len (And.left (by assumption)); omega)) (by first | omega | assumption | decide | exact cq_lq (And.left (by assumption)) | exact And.left (by assumption) | exact cq_sz (And.left (by assumption)) | exact szLe (lit_le _) (by decide) | (have h9:=cq_len (And.left (by assumption)); omega)) (by first | omega | assumption | decide | exact cq_lq (And.left (by assumption)) | exact And.left (by assumption) | exact cq_sz (And.left (by assumption)) | exact szLe (lit_le _) (by decide) | (have h9:=cq_len (And.left (by assumption)); omega)) (by first | omega | assumption | decide | exact cq_lq (And.left (by assumption)) | exact And.left (by assumption) | exact cq_sz (And.left (by assumption)) | exact szLe (lit_le _) (by decide) | (have h9:=cq_len (And.left (by assumption)); omega)) (by first | omega | assumption | decide | exact cq_lq (And.left (by assumption)) | exact And.left (by assumption) | exact cq_sz (And.left (by assumption)) | exact szLe (lit_le _) (by decide) | (have h9:=cq_len (And.left (by assumption)); omega)) (fun gv7=>fi24 Qa code ((F50 ⟨(F33 Qa code).1.b,(F33 Qa code).1.p⟩).1,(F49 ⟨(F33 Qa code).1.b,(F48 ⟨(F33 Qa code).1.b,(F72 ⟨(F33 Qa code).1.b,(F50 ⟨(F33 Qa code).1.b,(F33 Qa code).1.p⟩).2⟩ (F50 ⟨(F33 Qa code).1.b,(F33 Qa code).1.p⟩).1).2⟩ 16).2⟩ (F72 ⟨(F33 Qa code).1.b,(F50 ⟨(F33 Qa code).1.b,(F33 Qa code).1.p⟩).2⟩ (F50 ⟨(F33 Qa code).1.b,(F33 Qa code).1.p⟩).1).1).1) (condT h6 rfl))) (fun h6 _=>fi24 Qa code ((F50 ⟨(F33 Qa code).1.b,(F33 Qa code).1.p⟩).1,(F72 ⟨(F33 Qa code).1.b,(F50 ⟨(F33 Qa code).1.b,(F33 Qa code).1.p⟩).2⟩ (F50 ⟨(F33 Qa code).1.b,(F33 Qa code).1.p⟩).1).1) (condF h6 rfl))))))))))) (by kernel_rfl)
theorem drawDiff_q (Qa:SV) (code:List Int):LQ (F24 Qa code).1∧LS (F24 Qa code).2:=by
 obtain ⟨b0,p0⟩:=open_b Qa code
 obtain ⟨c1,c2,c3⟩:=neat_q (⟨(F33 Qa code).1.b,(F33 Qa code).1.p⟩:l51Rd) (by show 0≤(F33 Qa code).1.p; omega) (by show (F33 Qa code).1.p≤_; omega)
 have c3:(F50 (⟨(F33 Qa code).1.b,(F33 Qa code).1.p⟩:l51Rd)).2≤(F33 Qa code).1.p+450:=c3
 obtain ⟨d1,d2,d3⟩:=near_q (⟨(F33 Qa code).1.b,(F50 (⟨(F33 Qa code).1.b,(F33 Qa code).1.p⟩:l51Rd)).2⟩:l51Rd) (F50 (⟨(F33 Qa code).1.b,(F33 Qa code).1.p⟩:l51Rd)).1 c2 (by show (F50 (⟨(F33 Qa code).1.b,(F33 Qa code).1.p⟩:l51Rd)).2≤_; omega) c1
 have d3:(F72 (⟨(F33 Qa code).1.b,(F50 (⟨(F33 Qa code).1.b,(F33 Qa code).1.p⟩:l51Rd)).2⟩:l51Rd) (F50 (⟨(F33 Qa code).1.b,(F33 Qa code).1.p⟩:l51Rd)).1).2≤(F50 (⟨(F33 Qa code).1.b,(F33 Qa code).1.p⟩:l51Rd)).2+60:=d3
 unfold F24
 apply cond_P (P:=fun z:List ByteArray×List ByteArray=>LQ z.1∧LS z.2)
 ·exact ⟨c1,(spoil_q _ _ (by simp only [pick_p]; omega) (by simp only [pick_p]; omega) d1).1⟩
 ·exact ⟨c1,lq_ls d1⟩
theorem diffI_map (a b:List ByteArray) (na:F58 a=0) (nb:F58 b=0):F25 a b=(F74 a b).map fun x=>txtD (decide (x∈a),x):=by
 unfold F25
 have e:∀ x:List ByteArray,(!F73 x)=(F58 x != 0):=fun x=>by unfold F73; rw [neat_same]; rfl
 rw [e,e,na,nb]
 have hf:=fold_loop0 (F74 a b) (fun (s:List ByteArray) x=>s++[txtD (decide (x∈a),x)]) (fun s i=>(s,i)) (F25_s0 a b) (fun i s hi=>by
  simp only [F25_s0,ltD hi,cond_true,nn,implHas_mem]
  unfold txtD
  cases decide ((F74 a b).getD i default∈a) <;> rfl) (fun s=>by simp only [F25_s0,geD,cond_false]) (fun r=>r) (fun (x:List ByteArray×Int)=>x.1) []
 refine Eq.trans hf ?_
 rw [foldl_map' (fun x=>txtD (decide (x∈a),x)),List.nil_append]
theorem diffI_nil (a b:List ByteArray) (h:¬ (F58 a=0∧F58 b=0)):F25 a b=[]:=by
 unfold F25
 have e:∀ x:List ByteArray,(!F73 x)=(F58 x != 0):=fun x=>by unfold F73; rw [neat_same]; rfl
 rw [e,e]
 have:(bif F58 a != 0 then true else F58 b != 0)=true:=by
  cases h1:(F58 a != 0) with
  | true=>rfl
  | false =>
   rw [cond_false]
   rw [bne_iff_ne]
   intro h2
   exact h ⟨by simpa using h1,h2⟩
 rw [this]; rfl
theorem diff_le (a b:List ByteArray):(F25 a b).length≤32:=by
 by_cases h:F58 a=0∧F58 b=0
 ·rw [diffI_map a b h.1 h.2,List.length_map]
  exact justOne_len a b (neat_len a h.1) (neat_len b h.2)
 ·rw [diffI_nil a b h]; exact Nat.zero_le _
theorem txt_two (z:Bool×ByteArray):2≤(txtD z).size:=by
 obtain ⟨t,l⟩:=z
 have h1:(⟨#[45,32]⟩:ByteArray).size=2:=rfl
 have h2:(⟨#[43,32]⟩:ByteArray).size=2:=rfl
 cases t <;> (unfold txtD; simp only [cond_true,cond_false,ByteArray.size_append]; omega)
theorem diff_two (a b:List ByteArray):∀ q:Nat,q<(F25 a b).length→2≤((F25 a b).getD q default).size:=fun q hq=>by
 by_cases h:F58 a=0∧F58 b=0
 ·rw [diffI_map a b h.1 h.2] at hq ⊢
  have hm:=getD_mem _ hq
  obtain ⟨x,_,e⟩:=List.mem_map.1 hm
  rw [← e]
  exact txt_two _
 ·rw [diffI_nil a b h] at hq; exact absurd hq (Nat.not_lt_zero _)
theorem kc25 (a:List ByteArray) (b:List ByteArray) {K_:Prop} (p0_:a.length≤1048576) (p1_:b.length≤1048576) (p2_:∀ k:Nat,(a.getD k default).size≤1048576) (p3_:∀ k:Nat,(b.getD k default).size≤1048576) (k_:K_):(a.length≤1048576∧b.length≤1048576∧(∀ k:Nat,(a.getD k default).size≤1048576)∧(∀ k:Nat,(b.getD k default).size≤1048576))∧(Imp (.l 1 eStr a) (.l 1 eStr a))∧(Imp (.l 1 eStr b) (.l 1 eStr b))∧K_:=⟨⟨p0_,p1_,p2_,p3_⟩,Imp.refl _,Imp.refl _,k_⟩
abbrev kh25 (a:List ByteArray) (b:List ByteArray):Hint false Tryz.prog:=.call 25 (S25 a b) (ok25 a b) none
abbrev kh26f (a:List ByteArray) (b:List ByteArray):Hint false Tryz.prog:=.call 26 (S26 a b) ((ok26 a b).to false) none
theorem kg25 {K_:Prop} (c_ b_:Bool) (a:List ByteArray) (b:List ByteArray) (p_:c_=b_→a.length≤1048576∧b.length≤1048576∧(∀ k:Nat,(a.getD k default).size≤1048576)∧(∀ k:Nat,(b.getD k default).size≤1048576)) (k_:K_):(c_=b_→a.length≤1048576∧b.length≤1048576∧(∀ k:Nat,(a.getD k default).size≤1048576)∧(∀ k:Nat,(b.getD k default).size≤1048576))∧(c_=b_→Imp (.l 1 eStr a) (.l 1 eStr a))∧(c_=b_→Imp (.l 1 eStr b) (.l 1 eStr b))∧K_:=⟨p_,fun _=>Imp.refl _,fun _=>Imp.refl _,k_⟩
theorem kc27 (base:List ByteArray) (mine:List ByteArray) (theirs:List ByteArray) {K_:Prop} (p0_:base.length≤1048576) (p1_:mine.length≤1048576) (p2_:theirs.length≤1048576) (p3_:∀ k:Nat,(base.getD k default).size≤1048576) (p4_:∀ k:Nat,(mine.getD k default).size≤1048576) (p5_:∀ k:Nat,(theirs.getD k default).size≤1048576) (k_:K_):(base.length≤1048576∧mine.length≤1048576∧theirs.length≤1048576∧(∀ k:Nat,(base.getD k default).size≤1048576)∧(∀ k:Nat,(mine.getD k default).size≤1048576)∧(∀ k:Nat,(theirs.getD k default).size≤1048576))∧(Imp (.l 1 eStr base) (.l 1 eStr base))∧(Imp (.l 1 eStr mine) (.l 1 eStr mine))∧(Imp (.l 1 eStr theirs) (.l 1 eStr theirs))∧K_:=⟨⟨p0_,p1_,p2_,p3_,p4_,p5_⟩,Imp.refl _,Imp.refl _,Imp.refl _,k_⟩
abbrev kh27f (base:List ByteArray) (mine:List ByteArray) (theirs:List ByteArray):Hint false Tryz.prog:=.call 27 (S27 base mine theirs) ((ok27 base mine theirs).to false) none
def F5_j12 (Qa:SV) (code:List Int) (out1:List ByteArray) (i40:Int) (left'1:List ByteArray) (put1:Bool) (k:Int):Lp (List ByteArray×Bool) Bool :=
 bif (bif (!put1) then (Op.bytesLess (((F25 (F24 Qa code).1 (F24 Qa code).2).getD i40.toNat default).extract (2:Int).toNat (((F25 (F24 Qa code).1 (F24 Qa code).2).getD i40.toNat default).size:Int).toNat).toList (out1.getD k.toNat default).toList) else false) then (.done ((left'1++[(((F25 (F24 Qa code).1 (F24 Qa code).2).getD i40.toNat default).extract (2:Int).toNat (((F25 (F24 Qa code).1 (F24 Qa code).2).getD i40.toNat default).size:Int).toNat)]),true)) else (.done (left'1,put1))
def F5_s1 (Qa:SV) (code:List Int) (out1:List ByteArray) (i40:Int):(List ByteArray×Bool×Int)→Lp (List ByteArray×Bool×Int) Bool:=fun (left'1,put1,k) =>
 bif (decide (k<(out1.length:Int))) then ((F5_j12 Qa code out1 i40 left'1 put1 k).fin Lp.ret (fun (left'2,put2)=>bif (bif (((((F25 (F24 Qa code).1 (F24 Qa code).2).getD i40.toNat default).data.getD (Int.toNat 0) 0).toNat:Int)==43) then true else (!((out1.getD k.toNat default).toList==(((F25 (F24 Qa code).1 (F24 Qa code).2).getD i40.toNat default).extract (2:Int).toNat (((F25 (F24 Qa code).1 (F24 Qa code).2).getD i40.toNat default).size:Int).toNat).toList))) then (.next ((left'2++[(out1.getD k.toNat default)]),put2,(k+1))) else (.next (left'2,put2,(k+1))))) else (.done (left'1,put1,k))
def F5_j9 (Qa:SV) (code:List Int) (out1:List ByteArray) (i40:Int):Lp (List ByteArray×Bool) Bool :=
 (runL (F5_s1 Qa code out1 i40) (((out1.length:Int)-0).toNat+1) (([]:List ByteArray),(((((F25 (F24 Qa code).1 (F24 Qa code).2).getD i40.toNat default).data.getD (Int.toNat 0) 0).toNat:Int)==45),0)).fin Lp.ret (fun (left'1,put1,k)=>.done (left'1,put1))
def F5_s0 (Qa:SV) (code:List Int):(List ByteArray×Int)→Lp (List ByteArray×Int) Bool:=fun (out1,i40) =>
 bif (decide (i40<((F25 (F24 Qa code).1 (F24 Qa code).2).length:Int))) then ((F5_j9 Qa code out1 i40).fin Lp.ret (fun (left',put)=>bif (!put) then (.next ((left'++[(((F25 (F24 Qa code).1 (F24 Qa code).2).getD i40.toNat default).extract (2:Int).toNat (((F25 (F24 Qa code).1 (F24 Qa code).2).getD i40.toNat default).size:Int).toNat)]),(i40+1))) else (.next (left',(i40+1))))) else (.done (out1,i40))
def F5_j0 (Qa:SV) (code:List Int):Lp (List ByteArray) Bool :=
 (runL (F5_s0 Qa code) ((((F25 (F24 Qa code).1 (F24 Qa code).2).length:Int)-0).toNat+1) ((([]:List ByteArray)++(F24 Qa code).1),0)).fin Lp.ret (fun (out1,i40)=>.done out1)
def F5 (Qa:SV) (code:List Int):Bool :=
 bif (decide ((code.length:Int)>1048576)) then true else (bif (bif (!(decide ((F25 (F24 Qa code).1 (F24 Qa code).2)=(F26 (F24 Qa code).1 (F24 Qa code).2)))) then true else (((F25 (F24 Qa code).2 (F24 Qa code).1).length:Int) != ((F25 (F24 Qa code).1 (F24 Qa code).2).length:Int))) then false else (bif ((F27 (F24 Qa code).1 (F24 Qa code).2 (F24 Qa code).1).2==1) then (((F25 (F24 Qa code).1 (F24 Qa code).2).length:Int)==0) else ((F5_j0 Qa code).fin (fun r=>r) (fun out=>(decide (out=(F24 Qa code).2))))))
abbrev jI5_12 (Qa:SV) (code:List Int) (out1:List ByteArray) (i40:Int) (left'1:List ByteArray) (put1:Bool) (k:Int) (left'2:List ByteArray) (put2:Bool):Prop:=(left'2.length:Int)≤k+(put2.toNat:Int)∧put2.toNat≤1
abbrev jJ5_12 (Qa:SV) (code:List Int) (out1:List ByteArray) (i40:Int) (left'1:List ByteArray) (put1:Bool) (k:Int) (j:List ByteArray×Bool):Prop:=(F5_j12 Qa code out1 i40 left'1 put1 k)=Lp.done j∧jI5_12 Qa code out1 i40 left'1 put1 k j.1 j.2
theorem jn5_12 (Qa:SV) (code:List Int) (out1:List ByteArray) (i40:Int) (left'1:List ByteArray) (put1:Bool) (k:Int) (left'2:List ByteArray) (put2:Bool) (e:(F5_j12 Qa code out1 i40 left'1 put1 k)=Lp.done (left'2,put2)) (h:jI5_12 Qa code out1 i40 left'1 put1 k left'2 put2):∃ j:List ByteArray×Bool,((.int .i64 i40:Value)=.int .i64 i40)∧((.string (((F25 (F24 Qa code).1 (F24 Qa code).2).getD i40.toNat default).extract (2:Int).toNat (((F25 (F24 Qa code).1 (F24 Qa code).2).getD i40.toNat default).size:Int).toNat):Value)=.string (((F25 (F24 Qa code).1 (F24 Qa code).2).getD i40.toNat default).extract (2:Int).toNat (((F25 (F24 Qa code).1 (F24 Qa code).2).getD i40.toNat default).size:Int).toNat))∧((.bool put2:Value)=.bool j.2)∧((.int .i64 k:Value)=.int .i64 k)∧(Imp (.l 1 eStr (F24 Qa code).2) (.l 1 eStr (F24 Qa code).2))∧(Imp (.l 1 eStr (F25 (F24 Qa code).1 (F24 Qa code).2)) (.l 1 eStr (F25 (F24 Qa code).1 (F24 Qa code).2)))∧(Imp (.l 1 eStr out1) (.l 1 eStr out1))∧(Imp (.l 1 eStr left'2) (.l 1 eStr j.1))∧jJ5_12 Qa code out1 i40 left'1 put1 k j:=⟨(left'2,put2),rfl,rfl,rfl,rfl,Imp.refl _,Imp.refl _,Imp.refl _,Imp.refl _,e,h⟩
abbrev lN5_1 (Qa:SV) (code:List Int) (out1:List ByteArray) (i40:Int):Nat×(List ByteArray×Bool×Int):=((((out1.length:Int)-0).toNat+1),(([]:List ByteArray),(((((F25 (F24 Qa code).1 (F24 Qa code).2).getD i40.toNat default).data.getD (Int.toNat 0) 0).toNat:Int)==45),0))
abbrev lI5_1 (out1:List ByteArray) (m39:Nat) (left'1:List ByteArray) (put1:Bool) (k:Int):Prop:=Int.toNat ((out1.length:Int)-k)<m39∧(left'1.length:Int)≤k+(put1.toNat:Int)∧k≤(out1.length:Int)∧put1.toNat≤1∧(0:Int)≤k
abbrev lX5_1 (Qa:SV) (code:List Int) (out1:List ByteArray) (i40:Int):Lp (List ByteArray×Bool×Int) Bool:=LpX (F5_s1 Qa code out1 i40) (lN5_1 Qa code out1 i40)
abbrev lJ5_1 (Qa:SV) (code:List Int) (out1:List ByteArray) (i40:Int) (i:Nat×(List ByteArray×Bool×Int)):Prop:=LpJ (F5_s1 Qa code out1 i40) (lN5_1 Qa code out1 i40) i (lI5_1 out1 i.1 i.2.1 i.2.2.1 i.2.2.2)
abbrev lH5_1 (Qa:SV) (code:List Int) (out1:List ByteArray) (i40:Int) (i:Nat×(List ByteArray×Bool×Int)) (m39:Nat) (left'1:List ByteArray) (put1:Bool) (k:Int):Prop:=LpH (F5_s1 Qa code out1 i40) (lN5_1 Qa code out1 i40) i m39 (left'1,put1,k) (lI5_1 out1 (m39+1) left'1 put1 k)
abbrev lE5_1 (Qa:SV) (code:List Int) (out1:List ByteArray) (i40:Int) (left'1:List ByteArray) (put1:Bool) (k:Int) (left'1_:List ByteArray) (put1_:Bool) (k_:Int) (K39:Prop):Prop:=(Rf (.int .i64 i40))∧(Rf (.string (((F25 (F24 Qa code).1 (F24 Qa code).2).getD i40.toNat default).extract (2:Int).toNat (((F25 (F24 Qa code).1 (F24 Qa code).2).getD i40.toNat default).size:Int).toNat)))∧((.bool put1:Value)=.bool put1_)∧((.int .i64 k:Value)=.int .i64 k_)∧(Im (.l 1 eStr (F24 Qa code).2))∧(Im (.l 1 eStr (F25 (F24 Qa code).1 (F24 Qa code).2)))∧(Im (.l 1 eStr out1))∧(Imp (.l 1 eStr left'1) (.l 1 eStr left'1_))∧K39
theorem un5_1 (Qa:SV) (code:List Int) (out1:List ByteArray) (i40:Int) (i:Nat×(List ByteArray×Bool×Int)) (h:lJ5_1 Qa code out1 i40 i):lH5_1 Qa code out1 i40 i (i.1-1) i.2.1 i.2.2.1 i.2.2.2:=⟨hd1 h.1 h.2.1,hd3 h.2.1,hd2 h.2.1,h.2.2⟩
theorem bk5_1 (Qa:SV) (code:List Int) (out1:List ByteArray) (i40:Int) (i:Nat×(List ByteArray×Bool×Int)) (m39:Nat) (left'1:List ByteArray) (put1:Bool) (k:Int) (hl:m39<i.1) (e:runL (F5_s1 Qa code out1 i40) m39 (left'1,put1,k)=lX5_1 Qa code out1 i40) (h:lI5_1 out1 m39 left'1 put1 k):∃ j:Nat×(List ByteArray×Bool×Int),lE5_1 Qa code out1 i40 left'1 put1 k j.2.1 j.2.2.1 j.2.2.2 (lJ5_1 Qa code out1 i40 j∧j.1<i.1):=⟨(m39,(left'1,put1,k)),rfl,rfl,rfl,rfl,Imp.refl _,Imp.refl _,Imp.refl _,Imp.refl _,⟨e,h⟩,hl⟩
theorem en5_1 (Qa:SV) (code:List Int) (out1:List ByteArray) (i40:Int) (h:(([]:List ByteArray).length:Int)≤0+((((((F25 (F24 Qa code).1 (F24 Qa code).2).getD i40.toNat default).data.getD (Int.toNat 0) 0).toNat:Int)==45).toNat:Int)∧0≤(out1.length:Int)∧(((((F25 (F24 Qa code).1 (F24 Qa code).2).getD i40.toNat default).data.getD (Int.toNat 0) 0).toNat:Int)==45).toNat≤1∧(0:Int)≤0):lE5_1 Qa code out1 i40 ([]:List ByteArray) (((((F25 (F24 Qa code).1 (F24 Qa code).2).getD i40.toNat default).data.getD (Int.toNat 0) 0).toNat:Int)==45) 0 ([]:List ByteArray) (((((F25 (F24 Qa code).1 (F24 Qa code).2).getD i40.toNat default).data.getD (Int.toNat 0) 0).toNat:Int)==45) 0 (lJ5_1 Qa code out1 i40 (lN5_1 Qa code out1 i40)):=⟨rfl,rfl,rfl,rfl,Imp.refl _,Imp.refl _,Imp.refl _,Imp.refl _,rfl,Nat.lt_succ_self _,h⟩
abbrev jI5_9 (Qa:SV) (code:List Int) (out1:List ByteArray) (i40:Int) (left':List ByteArray) (put:Bool):Prop:=(left'.length:Int)≤(out1.length:Int)+(put.toNat:Int)∧put.toNat≤1
abbrev jJ5_9 (Qa:SV) (code:List Int) (out1:List ByteArray) (i40:Int) (j:List ByteArray×Bool):Prop:=(F5_j9 Qa code out1 i40)=Lp.done j∧jI5_9 Qa code out1 i40 j.1 j.2
theorem jn5_9 (Qa:SV) (code:List Int) (out1:List ByteArray) (i40:Int) (left':List ByteArray) (put:Bool) (e:(F5_j9 Qa code out1 i40)=Lp.done (left',put)) (h:jI5_9 Qa code out1 i40 left' put):∃ j:List ByteArray×Bool,((.int .i64 i40:Value)=.int .i64 i40)∧((.string (((F25 (F24 Qa code).1 (F24 Qa code).2).getD i40.toNat default).extract (2:Int).toNat (((F25 (F24 Qa code).1 (F24 Qa code).2).getD i40.toNat default).size:Int).toNat):Value)=.string (((F25 (F24 Qa code).1 (F24 Qa code).2).getD i40.toNat default).extract (2:Int).toNat (((F25 (F24 Qa code).1 (F24 Qa code).2).getD i40.toNat default).size:Int).toNat))∧((.bool put:Value)=.bool j.2)∧(Imp (.l 1 eStr (F24 Qa code).2) (.l 1 eStr (F24 Qa code).2))∧(Imp (.l 1 eStr (F25 (F24 Qa code).1 (F24 Qa code).2)) (.l 1 eStr (F25 (F24 Qa code).1 (F24 Qa code).2)))∧(Imp (.l 1 eStr left') (.l 1 eStr j.1))∧jJ5_9 Qa code out1 i40 j:=⟨(left',put),rfl,rfl,rfl,Imp.refl _,Imp.refl _,Imp.refl _,e,h⟩
abbrev lN5_0 (Qa:SV) (code:List Int):Nat×(List ByteArray×Int):=(((((F25 (F24 Qa code).1 (F24 Qa code).2).length:Int)-0).toNat+1),((([]:List ByteArray)++(F24 Qa code).1),0))
abbrev lI5_0 (Qa:SV) (code:List Int) (m39:Nat) (out1:List ByteArray) (i40:Int):Prop:=Int.toNat (((F25 (F24 Qa code).1 (F24 Qa code).2).length:Int)-i40)<m39∧(out1.length:Int)≤40+2*i40∧i40≤((F25 (F24 Qa code).1 (F24 Qa code).2).length:Int)∧(0:Int)≤i40
abbrev lX5_0 (Qa:SV) (code:List Int):Lp (List ByteArray×Int) Bool:=LpX (F5_s0 Qa code) (lN5_0 Qa code)
abbrev lJ5_0 (Qa:SV) (code:List Int) (i:Nat×(List ByteArray×Int)):Prop:=LpJ (F5_s0 Qa code) (lN5_0 Qa code) i (lI5_0 Qa code i.1 i.2.1 i.2.2)
abbrev lH5_0 (Qa:SV) (code:List Int) (i:Nat×(List ByteArray×Int)) (m39:Nat) (out1:List ByteArray) (i40:Int):Prop:=LpH (F5_s0 Qa code) (lN5_0 Qa code) i m39 (out1,i40) (lI5_0 Qa code (m39+1) out1 i40)
abbrev lE5_0 (Qa:SV) (code:List Int) (out1:List ByteArray) (i40:Int) (out1_:List ByteArray) (i40_:Int) (K39:Prop):Prop:=((.int .i64 i40:Value)=.int .i64 i40_)∧(Im (.l 1 eStr (F24 Qa code).2))∧(Im (.l 1 eStr (F25 (F24 Qa code).1 (F24 Qa code).2)))∧(Imp (.l 1 eStr out1) (.l 1 eStr out1_))∧K39
theorem un5_0 (Qa:SV) (code:List Int) (i:Nat×(List ByteArray×Int)) (h:lJ5_0 Qa code i):lH5_0 Qa code i (i.1-1) i.2.1 i.2.2:=⟨hd1 h.1 h.2.1,hd3 h.2.1,hd2 h.2.1,h.2.2⟩
theorem bk5_0 (Qa:SV) (code:List Int) (i:Nat×(List ByteArray×Int)) (m39:Nat) (out1:List ByteArray) (i40:Int) (hl:m39<i.1) (e:runL (F5_s0 Qa code) m39 (out1,i40)=lX5_0 Qa code) (h:lI5_0 Qa code m39 out1 i40):∃ j:Nat×(List ByteArray×Int),lE5_0 Qa code out1 i40 j.2.1 j.2.2 (lJ5_0 Qa code j∧j.1<i.1):=⟨(m39,(out1,i40)),rfl,Imp.refl _,Imp.refl _,Imp.refl _,⟨e,h⟩,hl⟩
theorem en5_0 (Qa:SV) (code:List Int) (h:((([]:List ByteArray)++(F24 Qa code).1).length:Int)≤40+2*0∧0≤((F25 (F24 Qa code).1 (F24 Qa code).2).length:Int)∧(0:Int)≤0):lE5_0 Qa code (([]:List ByteArray)++(F24 Qa code).1) 0 (([]:List ByteArray)++(F24 Qa code).1) 0 (lJ5_0 Qa code (lN5_0 Qa code)):=⟨rfl,Imp.refl _,Imp.refl _,Imp.refl _,rfl,Nat.lt_succ_self _,h⟩
abbrev jI5_0 (Qa:SV) (code:List Int) (out:List ByteArray):Prop:=out.length≤100000∧True
abbrev jJ5_0 (Qa:SV) (code:List Int) (j:List ByteArray):Prop:=(F5_j0 Qa code)=Lp.done j∧jI5_0 Qa code j
theorem jn5_0 (Qa:SV) (code:List Int) (out:List ByteArray) (e:(F5_j0 Qa code)=Lp.done out) (h:jI5_0 Qa code out):∃ j:List ByteArray,(Imp (.l 1 eStr (F24 Qa code).2) (.l 1 eStr (F24 Qa code).2))∧(Imp (.l 1 eStr out) (.l 1 eStr j))∧jJ5_0 Qa code j:=⟨out,Imp.refl _,Imp.refl _,e,h⟩
def S5 (Qa:SV) (code:List Int):Spec:=⟨[.vl (sv Qa) (.l 1 eByte code)],.v (.bool (F5 Qa code)),True⟩
theorem ok5 (Qa:SV) (code:List Int):(S5 Qa code).ok Tryz.prog 5 false :=
 fnG_ok mixed (fn:=Tryz.f5) (ct:=.seqk [(0,0)] .no (.seq (.seq .no (.cond (.seq .no .no) .no)) (.seq (.reg [(1,.call 24 (S24 Qa code) ((ok24 Qa code).to false) none)]) (.seq (.reg [(2,kh25 (F24 Qa code).1 (F24 Qa code).2)]) (.seq (.seq (.reg [(3,kh26f (F24 Qa code).1 (F24 Qa code).2),(4,kh12af (F25 (F24 Qa code).1 (F24 Qa code).2) (F26 (F24 Qa code).1 (F24 Qa code).2)),(9,kh25 (F24 Qa code).2 (F24 Qa code).1)]) (.cond (.seq .no .no) .no)) (.seq (.reg [(3,kh27f (F24 Qa code).1 (F24 Qa code).2 (F24 Qa code).1)]) (.seq (.seq .no (.cond (.seq .no .no) .no)) (.seq (.reg [(0,.dat (.l 1 eStr ([]:List ByteArray))),(2,.dat (.l 1 eStr (([]:List ByteArray)++(F24 Qa code).1)))]) (.cut (ι:=List ByteArray) (fun j=>(fun (out:List ByteArray)=>(⟨[(4,some (.h 0 0)),(8,some (.h 1 0))],[(0,some (.own 0 (.l 1 eStr (F24 Qa code).2))),(1,some (.own 1 (.l 1 eStr out)))],2⟩:St)) j) (jJ5_0 Qa code) (.seqk [(5,0),(8,0)] .no (.blk (.loop (ι:=Nat×(List ByteArray×Int)) (fun i=>(fun (out1:List ByteArray) (i40:Int)=>(⟨[(4,some (.h 0 0)),(5,some (.h 1 0)),(8,some (.h 2 0)),(9,some (.v (vI i40)))],[(0,some (.own 0 (.l 1 eStr (F24 Qa code).2))),(1,some (.own 1 (.l 1 eStr (F25 (F24 Qa code).1 (F24 Qa code).2)))),(2,some (.own 2 (.l 1 eStr out1)))],3⟩:St)) i.2.1 i.2.2) (lJ5_0 Qa code) (fun i=>i.1) (lN5_0 Qa code) (fun i=>(fun (out1:List ByteArray) (i40:Int)=>(.seq (.seq .no (.cond .no .no)) (.seq (.blk (.seq .no (.seq (.reg [(0,.dat (.l 1 eStr ([]:List ByteArray)))]) (.seq .no (.cut (ι:=List ByteArray×Bool) (fun j=>(fun (left':List ByteArray) (put:Bool)=>(⟨[(4,some (.h 0 0)),(5,some (.h 1 0)),(9,some (.v (vI i40))),(10,some (.v (.string (((F25 (F24 Qa code).1 (F24 Qa code).2).getD i40.toNat default).extract (2:Int).toNat (((F25 (F24 Qa code).1 (F24 Qa code).2).getD i40.toNat default).size:Int).toNat)))),(11,some (.h 2 0)),(12,some (.v (.bool put)))],[(0,some (.own 0 (.l 1 eStr (F24 Qa code).2))),(1,some (.own 1 (.l 1 eStr (F25 (F24 Qa code).1 (F24 Qa code).2)))),(2,some (.own 2 (.l 1 eStr left')))],3⟩:St)) j.1 j.2) (jJ5_9 Qa code out1 i40) (.seqk [(5,0),(8,0),(11,0)] .no (.blk (.loop (ι:=Nat×(List ByteArray×Bool×Int)) (fun i=>(fun (left'1:List ByteArray) (put1:Bool) (k:Int)=>(⟨[(4,some (.h 0 0)),(5,some (.h 1 0)),(8,some (.h 2 0)),(9,some (.v (vI i40))),(10,some (.v (.string (((F25 (F24 Qa code).1 (F24 Qa code).2).getD i40.toNat default).extract (2:Int).toNat (((F25 (F24 Qa code).1 (F24 Qa code).2).getD i40.toNat default).size:Int).toNat)))),(11,some (.h 3 0)),(12,some (.v (.bool put1))),(13,some (.v (vI k)))],[(0,some (.own 0 (.l 1 eStr (F24 Qa code).2))),(1,some (.own 1 (.l 1 eStr (F25 (F24 Qa code).1 (F24 Qa code).2)))),(2,some (.own 2 (.l 1 eStr out1))),(3,some (.own 3 (.l 1 eStr left'1)))],4⟩:St)) i.2.1 i.2.2.1 i.2.2.2) (lJ5_1 Qa code out1 i40) (fun i=>i.1) (lN5_1 Qa code out1 i40) (fun i=>(fun (left'1:List ByteArray) (put1:Bool) (k:Int)=>(.seq (.seq .no (.cond .no .no)) (.seq (.blk (.cut (ι:=List ByteArray×Bool) (fun j=>(fun (left'2:List ByteArray) (put2:Bool)=>(⟨[(4,some (.h 0 0)),(5,some (.h 1 0)),(8,some (.h 2 0)),(9,some (.v (vI i40))),(10,some (.v (.string (((F25 (F24 Qa code).1 (F24 Qa code).2).getD i40.toNat default).extract (2:Int).toNat (((F25 (F24 Qa code).1 (F24 Qa code).2).getD i40.toNat default).size:Int).toNat)))),(11,some (.h 3 0)),(12,some (.v (.bool put2))),(13,some (.v (vI k)))],[(0,some (.own 0 (.l 1 eStr (F24 Qa code).2))),(1,some (.own 1 (.l 1 eStr (F25 (F24 Qa code).1 (F24 Qa code).2)))),(2,some (.own 2 (.l 1 eStr out1))),(3,some (.own 3 (.l 1 eStr left'2)))],4⟩:St)) j.1 j.2) (jJ5_12 Qa code out1 i40 left'1 put1 k) (.seq .no (.cond (.seq (.reg [(3,.dat (.l 1 eStr (left'1++[(((F25 (F24 Qa code).1 (F24 Qa code).2).getD i40.toNat default).extract (2:Int).toNat (((F25 (F24 Qa code).1 (F24 Qa code).2).getD i40.toNat default).size:Int).toNat)])))]) .no) .no)) (fun j=>(fun (left'2:List ByteArray) (put2:Bool)=>(.seq .no (.cond (.reg [(6,.dat (.l 1 eStr (left'2++[(out1.getD k.toNat default)])))]) .no))) j.1 j.2))) (.reg [(1,.bnd)])))) i.2.1 i.2.2.1 i.2.2.2)))) (fun j=>(fun (left':List ByteArray) (put:Bool)=>(.seq (.seq .no (.cond (.reg [(3,.dat (.l 1 eStr (left'++[(((F25 (F24 Qa code).1 (F24 Qa code).2).getD i40.toNat default).extract (2:Int).toNat (((F25 (F24 Qa code).1 (F24 Qa code).2).getD i40.toNat default).size:Int).toNat)])))]) .no)) .no)) j.1 j.2)))))) (.reg [(1,.bnd)])))) i.2.1 i.2.2)))) (fun j=>(fun (out:List ByteArray)=>(.seq (.reg [(2,kh12af out (F24 Qa code).2)]) .no)) j)))))))))) Tryz.func5 (fun (_:True)=>kn code fun _=>ifd ((code.length:Int)>1048576) (fun h1 _=>fiB true (F5 Qa code) (condT h1 rfl)) (fun h1 _=>ai trivial (ai (Eq.refl (sv Qa)) (ai (Imp.refl (.l 1 eByte code)) (have gv2:(F24 Qa code).1.length≤17∧(F24 Qa code).2.length≤40:=(by exact ⟨(drawDiff_q _ _).1.1,(drawDiff_q _ _).2.1⟩); have gv3:∀ k:Nat,((F24 Qa code).1.getD k default).size≤1048576:=(by exact lq_sz (drawDiff_q _ _).1); have gv4:∀ k:Nat,((F24 Qa code).2.getD k default).size≤1048576:=(by exact ls_sz (drawDiff_q _ _).2); kc25 (F24 Qa code).1 (F24 Qa code).2 (by first | omega | assumption) (by first | omega | assumption) (by first | omega | assumption) (by first | omega | assumption) (have gv5:(F25 (F24 Qa code).1 (F24 Qa code).2).length≤32:=(by exact diff_le _ _); kc26 (F24 Qa code).1 (F24 Qa code).2 (by first | omega | assumption) (by first | omega | assumption) (by first | omega | assumption) (by first | omega | assumption) (kc12a (F25 (F24 Qa code).1 (F24 Qa code).2) (F26 (F24 Qa code).1 (F24 Qa code).2) (kg25 (!(decide ((F25 (F24 Qa code).1 (F24 Qa code).2)=(F26 (F24 Qa code).1 (F24 Qa code).2)))) false (F24 Qa code).2 (F24 Qa code).1 (fun k7=>have _:=of_decide_eq_true (notEF k7); ⟨(by first | omega | assumption),(by first | omega | assumption),(by first | omega | assumption),(by first | omega | assumption)⟩) (ifb (bif (!(decide ((F25 (F24 Qa code).1 (F24 Qa code).2)=(F26 (F24 Qa code).1 (F24 Qa code).2)))) then true else (((F25 (F24 Qa code).2 (F24 Qa code).1).length:Int) != ((F25 (F24 Qa code).1 (F24 Qa code).2).length:Int))) (fun h8=>fiB false (F5 Qa code) (condF h1 (condT h8 rfl))) (fun h8=>have _:=of_decide_eq_true (notEF (orF1 h8)); have _:=bneF (orF2 h8); kc27 (F24 Qa code).1 (F24 Qa code).2 (F24 Qa code).1 (by first | omega | assumption) (by first | omega | assumption) (by first | omega | assumption) (by first | omega | assumption) (by first | omega | assumption) (by first | omega | assumption) (ife (F27 (F24 Qa code).1 (F24 Qa code).2 (F24 Qa code).1).2 1 (fun h9 _=>fiB (((F25 (F24 Qa code).1 (F24 Qa code).2).length:Int)==0) (F5 Qa code) (condF h1 (condF h8 (condT h9 rfl)))) (fun h9 _=>ai (bokr 1 eStr ([]:List ByteArray) fun _=>rfl) (ai (AppL.mk eStr ([]:List ByteArray) (F24 Qa code).1 (Imp.refl (.l 1 eStr ([]:List ByteArray))) ir (fun y=>⟨rfl,fun e he=>by simp only [eStr,List.mem_cons,List.not_mem_nil,or_false] at he; rcases he with rfl <;> exact ⟨_,rfl⟩⟩):AppL (.l 1 eStr ([]:List ByteArray)) (.l 1 eStr (F24 Qa code).1) 1 (.l 1 eStr (([]:List ByteArray)++(F24 Qa code).1))) (ai (by (simp only [lens] at *; omega):(([]:List ByteArray)++(F24 Qa code).1).length*16≤140737488355328) (ai (kn (F25 (F24 Qa code).1 (F24 Qa code).2) fun _=>kn (([]:List ByteArray)++(F24 Qa code).1) fun _=>ai (en5_0 Qa code (by refine ⟨?_,?_,?_⟩ <;> first | omega | (simp only [lens,ib] at*<;> omega) | exact Bool.toNat_le _ | omega | (simp only [List.length_append,List.length_cons,List.length_nil,Bool.toNat_true] at *; omega) | (cases put1 <;> simp only [Bool.not_true,Bool.not_false,cond_true,cond_false,Bool.toNat_true,Bool.toNat_false,List.length_append,List.length_cons,List.length_nil,Bool.false_eq_true,false_and,and_false,false_implies] at*<;> omega) | (cases put1 <;> simp_all <;> omega) | (cases put2 <;> simp only [Bool.not_true,Bool.not_false,cond_true,cond_false,Bool.toNat_true,Bool.toNat_false,List.length_append,List.length_cons,List.length_nil,Bool.false_eq_true,false_and,and_false,false_implies] at*<;> omega) | (cases put2 <;> simp_all <;> omega) | (cases put <;> simp only [Bool.not_true,Bool.not_false,cond_true,cond_false,Bool.toNat_true,Bool.toNat_false,List.length_append,List.length_cons,List.length_nil,Bool.false_eq_true,false_and,and_false,false_implies] at*<;> omega) | (cases put <;> simp_all <;> omega))) (fun (i0:Nat×(List ByteArray×Int)) (hi0:lJ5_0 Qa code i0)=>(fun (m0:Nat) (out1:List ByteArray) (i40:Int) (hh0:lH5_0 Qa code i0 m0 out1 i40)=>have hI0:=hh0.1; have hl0:=hh0.2.1; have _:=hh0.2.2.1; have _:=hh0.2.2.2; ifd (i40<((F25 (F24 Qa code).1 (F24 Qa code).2).length:Int)) (fun h11 _=>ai (by (first | omega | (have h9:=diff_two (F24 Qa code).1 (F24 Qa code).2 i40.toNat (by first | omega | (simp only [lens,ib] at*<;> omega)); omega)):0≤i40∧i40<((F25 (F24 Qa code).1 (F24 Qa code).2).length:Int)) (ai (by (first | omega | (have h9:=diff_two (F24 Qa code).1 (F24 Qa code).2 i40.toNat (by first | omega | (simp only [lens,ib] at*<;> omega)); omega)):0≤(2:Int)∧(2:Int)≤(((F25 (F24 Qa code).1 (F24 Qa code).2).getD i40.toNat default).size:Int)∧(((F25 (F24 Qa code).1 (F24 Qa code).2).getD i40.toNat default).size:Int)≤(((F25 (F24 Qa code).1 (F24 Qa code).2).getD i40.toNat default).size:Int)) (ai (bokr 1 eStr ([]:List ByteArray) fun _=>rfl) (ai (by (first | omega | (have h9:=diff_two (F24 Qa code).1 (F24 Qa code).2 i40.toNat (by first | omega | (simp only [lens,ib] at*<;> omega)); omega)):0≤i40∧i40<((F25 (F24 Qa code).1 (F24 Qa code).2).length:Int)) (ai (by (first | omega | (have h9:=diff_two (F24 Qa code).1 (F24 Qa code).2 i40.toNat (by first | omega | (simp only [lens,ib] at*<;> omega)); omega)):0≤(0:Int)∧(0:Int)<(((F25 (F24 Qa code).1 (F24 Qa code).2).getD i40.toNat default).size:Int)) (ai (kn (F25 (F24 Qa code).1 (F24 Qa code).2) fun _=>kn out1 fun _=>kn ([]:List ByteArray) fun _=>ai (en5_1 Qa code out1 i40 (by refine ⟨?_,?_,?_,?_⟩ <;> first | omega | (simp only [lens,ib] at*<;> omega) | exact Bool.toNat_le _ | omega | (simp only [List.length_append,List.length_cons,List.length_nil,Bool.toNat_true] at *; omega) | (cases put1 <;> simp only [Bool.not_true,Bool.not_false,cond_true,cond_false,Bool.toNat_true,Bool.toNat_false,List.length_append,List.length_cons,List.length_nil,Bool.false_eq_true,false_and,and_false,false_implies] at*<;> omega) | (cases put1 <;> simp_all <;> omega) | (cases put2 <;> simp only [Bool.not_true,Bool.not_false,cond_true,cond_false,Bool.toNat_true,Bool.toNat_false,List.length_append,List.length_cons,List.length_nil,Bool.false_eq_true,false_and,and_false,false_implies] at*<;> omega) | (cases put2 <;> simp_all <;> omega) | (cases put <;> simp only [Bool.not_true,Bool.not_false,cond_true,cond_false,Bool.toNat_true,Bool.toNat_false,List.length_append,List.length_cons,List.length_nil,Bool.false_eq_true,false_and,and_false,false_implies] at*<;> omega) | (cases put <;> simp_all <;> omega))) (fun (i1:Nat×(List ByteArray×Bool×Int)) (hi1:lJ5_1 Qa code out1 i40 i1)=>(fun (m1:Nat) (left'1:List ByteArray) (put1:Bool) (k:Int) (hh1:lH5_1 Qa code out1 i40 i1 m1 left'1 put1 k)=>have hI1:=hh1.1; have hl1:=hh1.2.1; have _:=hh1.2.2.1; have _:=hh1.2.2.2; ifd (k<(out1.length:Int)) (fun h13 _=>ai (ai (fun k14:(!put1)=true=>have _:=(notET k14); (by (first | omega | (have h9:=diff_two (F24 Qa code).1 (F24 Qa code).2 i40.toNat (by first | omega | (simp only [lens,ib] at*<;> omega)); omega)):0≤k∧k<(out1.length:Int))) (ifb (bif (!put1) then (Op.bytesLess (((F25 (F24 Qa code).1 (F24 Qa code).2).getD i40.toNat default).extract (2:Int).toNat (((F25 (F24 Qa code).1 (F24 Qa code).2).getD i40.toNat default).size:Int).toNat).toList (out1.getD k.toNat default).toList) else false) (fun h15=>have _:=(notET (andT1 h15)); have _:=(andT2 h15); ai (appr 1 eStr left'1 [(((F25 (F24 Qa code).1 (F24 Qa code).2).getD i40.toNat default).extract (2:Int).toNat (((F25 (F24 Qa code).1 (F24 Qa code).2).getD i40.toNat default).size:Int).toNat)] fun _=>rfl) (ai (by (simp only [lens] at *; omega):(left'1++[(((F25 (F24 Qa code).1 (F24 Qa code).2).getD i40.toNat default).extract (2:Int).toNat (((F25 (F24 Qa code).1 (F24 Qa code).2).getD i40.toNat default).size:Int).toNat)]).length*16≤140737488355328) (jn5_12 Qa code out1 i40 left'1 put1 k (left'1++[(((F25 (F24 Qa code).1 (F24 Qa code).2).getD i40.toNat default).extract (2:Int).toNat (((F25 (F24 Qa code).1 (F24 Qa code).2).getD i40.toNat default).size:Int).toNat)]) true (Eq.symm (condT h15 rfl)) (by refine ⟨?_,?_⟩ <;> first | omega | (simp only [lens,ib] at*<;> omega) | exact Bool.toNat_le _ | omega | (simp only [List.length_append,List.length_cons,List.length_nil,Bool.toNat_true] at *; omega) | (cases put1 <;> simp only [Bool.not_true,Bool.not_false,cond_true,cond_false,Bool.toNat_true,Bool.toNat_false,List.length_append,List.length_cons,List.length_nil,Bool.false_eq_true,false_and,and_false,false_implies] at*<;> omega) | (cases put1 <;> simp_all <;> omega) | (cases put2 <;> simp only [Bool.not_true,Bool.not_false,cond_true,cond_false,Bool.toNat_true,Bool.toNat_false,List.length_append,List.length_cons,List.length_nil,Bool.false_eq_true,false_and,and_false,false_implies] at*<;> omega) | (cases put2 <;> simp_all <;> omega) | (cases put <;> simp only [Bool.not_true,Bool.not_false,cond_true,cond_false,Bool.toNat_true,Bool.toNat_false,List.length_append,List.length_cons,List.length_nil,Bool.false_eq_true,false_and,and_false,false_implies] at*<;> omega) | (cases put <;> simp_all <;> omega))))) (fun h15=>jn5_12 Qa code out1 i40 left'1 put1 k left'1 put1 (Eq.symm (condF h15 rfl)) (by refine ⟨?_,?_⟩ <;> first | omega | (simp only [lens,ib] at*<;> omega) | exact Bool.toNat_le _ | omega | (simp only [List.length_append,List.length_cons,List.length_nil,Bool.toNat_true] at *; omega) | (cases put1 <;> simp only [Bool.not_true,Bool.not_false,cond_true,cond_false,Bool.toNat_true,Bool.toNat_false,List.length_append,List.length_cons,List.length_nil,Bool.false_eq_true,false_and,and_false,false_implies] at*<;> omega) | (cases put1 <;> simp_all <;> omega) | (cases put2 <;> simp only [Bool.not_true,Bool.not_false,cond_true,cond_false,Bool.toNat_true,Bool.toNat_false,List.length_append,List.length_cons,List.length_nil,Bool.false_eq_true,false_and,and_false,false_implies] at*<;> omega) | (cases put2 <;> simp_all <;> omega) | (cases put <;> simp only [Bool.not_true,Bool.not_false,cond_true,cond_false,Bool.toNat_true,Bool.toNat_false,List.length_append,List.length_cons,List.length_nil,Bool.false_eq_true,false_and,and_false,false_implies] at*<;> omega) | (cases put <;> simp_all <;> omega))))) (fun (j:List ByteArray×Bool) (hj:jJ5_12 Qa code out1 i40 left'1 put1 k j)=>(fun (left'2:List ByteArray) (put2:Bool) (hJ12_16:(F5_j12 Qa code out1 i40 left'1 put1 k)=Lp.done (left'2,put2)) (hw:jI5_12 Qa code out1 i40 left'1 put1 k left'2 put2)=>have _:=hw.1; have _:=hw.2; ai (by (first | omega | (have h9:=diff_two (F24 Qa code).1 (F24 Qa code).2 i40.toNat (by first | omega | (simp only [lens,ib] at*<;> omega)); omega)):0≤i40∧i40<((F25 (F24 Qa code).1 (F24 Qa code).2).length:Int)) (ai (by (first | omega | (have h9:=diff_two (F24 Qa code).1 (F24 Qa code).2 i40.toNat (by first | omega | (simp only [lens,ib] at*<;> omega)); omega)):0≤(0:Int)∧(0:Int)<(((F25 (F24 Qa code).1 (F24 Qa code).2).getD i40.toNat default).size:Int)) (ai (fun k17:(((((F25 (F24 Qa code).1 (F24 Qa code).2).getD i40.toNat default).data.getD (Int.toNat 0) 0).toNat:Int)==43)=false=>have _:=beqF k17; (by (first | omega | (have h9:=diff_two (F24 Qa code).1 (F24 Qa code).2 i40.toNat (by first | omega | (simp only [lens,ib] at*<;> omega)); omega)):0≤k∧k<(out1.length:Int))) (ifb (bif (((((F25 (F24 Qa code).1 (F24 Qa code).2).getD i40.toNat default).data.getD (Int.toNat 0) 0).toNat:Int)==43) then true else (!((out1.getD k.toNat default).toList==(((F25 (F24 Qa code).1 (F24 Qa code).2).getD i40.toNat default).extract (2:Int).toNat (((F25 (F24 Qa code).1 (F24 Qa code).2).getD i40.toNat default).size:Int).toNat).toList))) (fun h18=>ai (by (first | omega | (have h9:=diff_two (F24 Qa code).1 (F24 Qa code).2 i40.toNat (by first | omega | (simp only [lens,ib] at*<;> omega)); omega)):0≤k∧k<(out1.length:Int)) (ai (appr 1 eStr left'2 [(out1.getD k.toNat default)] fun _=>rfl) (ai (by (simp only [lens] at *; omega):(left'2++[(out1.getD k.toNat default)]).length*16≤140737488355328) (ai (iok (k+1) (by first | omega | (simp only [lens,ib] at*<;> omega))) (bk5_1 Qa code out1 i40 i1 m1 (left'2++[(out1.getD k.toNat default)]) put2 (k+1) hl1 (runL_next hI1 (condT h13 (finD hJ12_16 (condT h18 rfl)))) (by refine ⟨?_,?_,?_,?_,?_⟩ <;> first | omega | (simp only [lens,ib] at*<;> omega) | exact Bool.toNat_le _ | omega | (simp only [List.length_append,List.length_cons,List.length_nil,Bool.toNat_true] at *; omega) | (cases put1 <;> simp only [Bool.not_true,Bool.not_false,cond_true,cond_false,Bool.toNat_true,Bool.toNat_false,List.length_append,List.length_cons,List.length_nil,Bool.false_eq_true,false_and,and_false,false_implies] at*<;> omega) | (cases put1 <;> simp_all <;> omega) | (cases put2 <;> simp only [Bool.not_true,Bool.not_false,cond_true,cond_false,Bool.toNat_true,Bool.toNat_false,List.length_append,List.length_cons,List.length_nil,Bool.false_eq_true,false_and,and_false,false_implies] at*<;> omega) | (cases put2 <;> simp_all <;> omega) | (cases put <;> simp only [Bool.not_true,Bool.not_false,cond_true,cond_false,Bool.toNat_true,Bool.toNat_false,List.length_append,List.length_cons,List.length_nil,Bool.false_eq_true,false_and,and_false,false_implies] at*<;> omega) | (cases put <;> simp_all <;> omega))))))) (fun h18=>have _:=beqF (orF1 h18); have _:=(orF2 h18); ai (iok (k+1) (by first | omega | (simp only [lens,ib] at*<;> omega))) (bk5_1 Qa code out1 i40 i1 m1 left'2 put2 (k+1) hl1 (runL_next hI1 (condT h13 (finD hJ12_16 (condF h18 rfl)))) (by refine ⟨?_,?_,?_,?_,?_⟩ <;> first | omega | (simp only [lens,ib] at*<;> omega) | exact Bool.toNat_le _ | omega | (simp only [List.length_append,List.length_cons,List.length_nil,Bool.toNat_true] at *; omega) | (cases put1 <;> simp only [Bool.not_true,Bool.not_false,cond_true,cond_false,Bool.toNat_true,Bool.toNat_false,List.length_append,List.length_cons,List.length_nil,Bool.false_eq_true,false_and,and_false,false_implies] at*<;> omega) | (cases put1 <;> simp_all <;> omega) | (cases put2 <;> simp only [Bool.not_true,Bool.not_false,cond_true,cond_false,Bool.toNat_true,Bool.toNat_false,List.length_append,List.length_cons,List.length_nil,Bool.false_eq_true,false_and,and_false,false_implies] at*<;> omega) | (cases put2 <;> simp_all <;> omega) | (cases put <;> simp only [Bool.not_true,Bool.not_false,cond_true,cond_false,Bool.toNat_true,Bool.toNat_false,List.length_append,List.length_cons,List.length_nil,Bool.false_eq_true,false_and,and_false,false_implies] at*<;> omega) | (cases put <;> simp_all <;> omega)))))))) j.1 j.2 hj.1 hj.2)) (fun h13 _=>have hD1_19:lX5_1 Qa code out1 i40=Lp.done (left'1,put1,k):=runL_done hI1 (condF h13 rfl); jn5_9 Qa code out1 i40 left'1 put1 (Eq.symm (finD hD1_19 rfl)) (by refine ⟨?_,?_⟩ <;> first | omega | (simp only [lens,ib] at*<;> omega) | exact Bool.toNat_le _ | omega | (simp only [List.length_append,List.length_cons,List.length_nil,Bool.toNat_true] at *; omega) | (cases put1 <;> simp only [Bool.not_true,Bool.not_false,cond_true,cond_false,Bool.toNat_true,Bool.toNat_false,List.length_append,List.length_cons,List.length_nil,Bool.false_eq_true,false_and,and_false,false_implies] at*<;> omega) | (cases put1 <;> simp_all <;> omega) | (cases put2 <;> simp only [Bool.not_true,Bool.not_false,cond_true,cond_false,Bool.toNat_true,Bool.toNat_false,List.length_append,List.length_cons,List.length_nil,Bool.false_eq_true,false_and,and_false,false_implies] at*<;> omega) | (cases put2 <;> simp_all <;> omega) | (cases put <;> simp only [Bool.not_true,Bool.not_false,cond_true,cond_false,Bool.toNat_true,Bool.toNat_false,List.length_append,List.length_cons,List.length_nil,Bool.false_eq_true,false_and,and_false,false_implies] at*<;> omega) | (cases put <;> simp_all <;> omega)))) (i1.1-1) i1.2.1 i1.2.2.1 i1.2.2.2 (un5_1 Qa code out1 i40 i1 hi1))) (fun (j:List ByteArray×Bool) (hj:jJ5_9 Qa code out1 i40 j)=>(fun (left':List ByteArray) (put:Bool) (hJ9_20:(F5_j9 Qa code out1 i40)=Lp.done (left',put)) (hw:jI5_9 Qa code out1 i40 left' put)=>have _:=hw.1; have _:=hw.2; ifb (!put) (fun h21=>have _:=(notET h21); ai (appr 1 eStr left' [(((F25 (F24 Qa code).1 (F24 Qa code).2).getD i40.toNat default).extract (2:Int).toNat (((F25 (F24 Qa code).1 (F24 Qa code).2).getD i40.toNat default).size:Int).toNat)] fun _=>rfl) (ai (by (simp only [lens] at *; omega):(left'++[(((F25 (F24 Qa code).1 (F24 Qa code).2).getD i40.toNat default).extract (2:Int).toNat (((F25 (F24 Qa code).1 (F24 Qa code).2).getD i40.toNat default).size:Int).toNat)]).length*16≤140737488355328) (ai (iok (i40+1) (by first | omega | (simp only [lens,ib] at*<;> omega))) (bk5_0 Qa code i0 m0 (left'++[(((F25 (F24 Qa code).1 (F24 Qa code).2).getD i40.toNat default).extract (2:Int).toNat (((F25 (F24 Qa code).1 (F24 Qa code).2).getD i40.toNat default).size:Int).toNat)]) (i40+1) hl0 (runL_next hI0 (condT h11 (finD hJ9_20 (condT h21 rfl)))) (by refine ⟨?_,?_,?_,?_⟩ <;> first | omega | (simp only [lens,ib] at*<;> omega) | exact Bool.toNat_le _ | omega | (simp only [List.length_append,List.length_cons,List.length_nil,Bool.toNat_true] at *; omega) | (cases put1 <;> simp only [Bool.not_true,Bool.not_false,cond_true,cond_false,Bool.toNat_true,Bool.toNat_false,List.length_append,List.length_cons,List.length_nil,Bool.false_eq_true,false_and,and_false,false_implies] at*<;> omega) | (cases put1 <;> simp_all <;> omega) | (cases put2 <;> simp only [Bool.not_true,Bool.not_false,cond_true,cond_false,Bool.toNat_true,Bool.toNat_false,List.length_append,List.length_cons,List.length_nil,Bool.false_eq_true,false_and,and_false,false_implies] at*<;> omega) | (cases put2 <;> simp_all <;> omega) | (cases put <;> simp only [Bool.not_true,Bool.not_false,cond_true,cond_false,Bool.toNat_true,Bool.toNat_false,List.length_append,List.length_cons,List.length_nil,Bool.false_eq_true,false_and,and_false,false_implies] at*<;> omega) | (cases put <;> simp_all <;> omega)))))) (fun h21=>have _:=(notEF h21); ai (iok (i40+1) (by first | omega | (simp only [lens,ib] at*<;> omega))) (bk5_0 Qa code i0 m0 left' (i40+1) hl0 (runL_next hI0 (condT h11 (finD hJ9_20 (condF h21 rfl)))) (by refine ⟨?_,?_,?_,?_⟩ <;> first | omega | (simp only [lens,ib] at*<;> omega) | exact Bool.toNat_le _ | omega | (simp only [List.length_append,List.length_cons,List.length_nil,Bool.toNat_true] at *; omega) | (cases put1 <;> simp only [Bool.not_true,Bool.not_false,cond_true,cond_false,Bool.toNat_true,Bool.toNat_false,List.length_append,List.length_cons,List.length_nil,Bool.false_eq_true,false_and,and_false,false_implies] at*<;> omega) | (cases put1 <;> simp_all <;> omega) | (cases put2 <;> simp only [Bool.not_true,Bool.not_false,cond_true,cond_false,Bool.toNat_true,Bool.toNat_false,List.length_append,List.length_cons,List.length_nil,Bool.false_eq_true,false_and,and_false,false_implies] at*<;> omega) | (cases put2 <;> simp_all <;> omega) | (cases put <;> simp only [Bool.not_true,Bool.not_false,cond_true,cond_false,Bool.toNat_true,Bool.toNat_false,List.length_append,List.length_cons,List.length_nil,Bool.false_eq_true,false_and,and_false,false_implies] at*<;> omega) | (cases put <;> simp_all <;> omega))))) j.1 j.2 hj.1 hj.2))))))) (fun h11 _=>have hD0_22:lX5_0 Qa code=Lp.done (out1,i40):=runL_done hI0 (condF h11 rfl); jn5_0 Qa code out1 (Eq.symm (finD hD0_22 rfl)) (by refine ⟨?_,?_⟩ <;> first | exact trivial | omega | (simp only [lens,ib] at*<;> omega) | exact Bool.toNat_le _ | omega | (simp only [List.length_append,List.length_cons,List.length_nil,Bool.toNat_true] at *; omega) | (cases put1 <;> simp only [Bool.not_true,Bool.not_false,cond_true,cond_false,Bool.toNat_true,Bool.toNat_false,List.length_append,List.length_cons,List.length_nil,Bool.false_eq_true,false_and,and_false,false_implies] at*<;> omega) | (cases put1 <;> simp_all <;> omega) | (cases put2 <;> simp only [Bool.not_true,Bool.not_false,cond_true,cond_false,Bool.toNat_true,Bool.toNat_false,List.length_append,List.length_cons,List.length_nil,Bool.false_eq_true,false_and,and_false,false_implies] at*<;> omega) | (cases put2 <;> simp_all <;> omega) | (cases put <;> simp only [Bool.not_true,Bool.not_false,cond_true,cond_false,Bool.toNat_true,Bool.toNat_false,List.length_append,List.length_cons,List.length_nil,Bool.false_eq_true,false_and,and_false,false_implies] at*<;> omega) | (cases put <;> simp_all <;> omega)))) (i0.1-1) i0.2.1 i0.2.2 (un5_0 Qa code i0 hi0))) (fun (j:List ByteArray) (hj:jJ5_0 Qa code j)=>(fun (out:List ByteArray) (hJ0_23:(F5_j0 Qa code)=Lp.done out) (hw:jI5_0 Qa code out)=>have _:=hw.1; kc12a out (F24 Qa code).2 (fiB (decide (out=(F24 Qa code).2)) (F5 Qa code) (condF h1 (condF h8 (condF h9 (finD hJ0_23 rfl)))))) j hj.1 hj.2)))))))))))))))) (by kernel_rfl)
def insB (l:ByteArray):List ByteArray→List ByteArray
 | []=>[l]
 | x :: xs=>bif ltB l x then l :: x :: xs else x :: insB l xs
theorem insB_mem {l:ByteArray}:∀ {xs:List ByteArray} {z:ByteArray},z∈insB l xs↔z=l∨z∈xs
 | [],z=>by simp [insB]
 | x :: xs,z=>by
  rw [insB]
  cases ltB l x with
  | true=>simp
  | false =>
   rw [cond_false,List.mem_cons,insB_mem,List.mem_cons]
   constructor
   ·rintro (h | h | h)
    ·exact .inr (.inl h)
    ·exact .inl h
    ·exact .inr (.inr h)
   ·rintro (h | h | h)
    ·exact .inr (.inl h)
    ·exact .inl h
    ·exact .inr (.inr h)
theorem insB_sorted {l:ByteArray}:∀ {xs:List ByteArray},SortedB xs→l ∉ xs→SortedB (insB l xs)
 | [],_,_=>List.pairwise_singleton _ _
 | x :: xs,h,hn=>by
  obtain ⟨h1,h2⟩:=List.pairwise_cons.1 h
  rw [insB]
  cases hl:ltB l x with
  | true =>
   rw [cond_true]
   refine List.pairwise_cons.2 ⟨fun y hy=>?_,h⟩
   rcases List.mem_cons.1 hy with rfl | hy
   ·exact hl
   ·exact ltB_trans hl (h1 y hy)
  | false =>
   rw [cond_false]
   refine List.pairwise_cons.2 ⟨fun y hy=>?_,insB_sorted h2 fun hm=>hn (List.mem_cons_of_mem _ hm)⟩
   rcases insB_mem.1 hy with rfl | hy
   ·rcases ltB_tri y x with h3 | h3 | h3
    ·rw [hl] at h3; cases h3
    ·exact absurd (h3 ▸ List.mem_cons_self) hn
    ·exact h3
   ·exact h1 y hy
def apD (out:List ByteArray) (z:Bool×ByteArray):List ByteArray:=bif z.1 then out.filter (fun x=>!(x.toList==z.2.toList)) else insB z.2 out
theorem ap_fold (a b:List ByteArray):∀ (J out:List ByteArray),J.Nodup→SortedB out→(∀ z∈J,(z∈out↔z∈a))→(∀ z∈J,(z∈a∧z ∉ b)∨(z∈b∧z ∉ a)) →
  SortedB (J.foldl (fun out x=>apD out (decide (x∈a),x)) out)∧∀ z,z∈J.foldl (fun out x=>apD out (decide (x∈a),x)) out↔(z∈J∧z∈b)∨(z ∉ J∧z∈out)
 | [],out,_,hs,_,_=>⟨hs,fun z=>by simp⟩
 | x :: J,out,hn,hs,hm,hx=>by
  obtain ⟨n1,n2⟩:=List.nodup_cons.1 hn
  have hxa:=hx x List.mem_cons_self
  have hxo:=hm x List.mem_cons_self
  rw [List.foldl_cons]
  have key:SortedB (apD out (decide (x∈a),x))∧∀ z,z∈apD out (decide (x∈a),x)↔(z=x∧x∈b)∨(z≠x∧z∈out):=by
   by_cases h:x∈a
   ·have hb:x ∉ b:=by rcases hxa with k | k; exact k.2; exact absurd h k.2
    rw [decide_eq_true h]
    unfold apD
    rw [cond_true]
    refine ⟨hs.filter _,fun z=>?_⟩
    rw [List.mem_filter]
    have:(!(z.toList==x.toList))=true↔z≠x:=by rw [beq_ba]; simp
    rw [this]
    constructor
    ·rintro ⟨k1,k2⟩; exact .inr ⟨k2,k1⟩
    ·rintro (⟨_,k⟩ | ⟨k1,k2⟩)
     ·exact absurd k hb
     ·exact ⟨k2,k1⟩
   ·have hb:x∈b:=by rcases hxa with k | k; exact absurd k.1 h; exact k.1
    rw [decide_eq_false h]
    unfold apD
    rw [cond_false]
    have ho:x ∉ out:=fun k=>h (hxo.1 k)
    refine ⟨insB_sorted hs ho,fun z=>?_⟩
    rw [insB_mem]
    constructor
    ·rintro (k | k)
     ·exact .inl ⟨k,hb⟩
     ·exact .inr ⟨fun e=>ho (e ▸ k),k⟩
    ·rintro (⟨k,_⟩ | ⟨_,k⟩)
     ·exact .inl k
     ·exact .inr k
  obtain ⟨s1,m1⟩:=key
  obtain ⟨s2,m2⟩:=ap_fold a b J (apD out (decide (x∈a),x)) n2 s1 (fun z hz=>by
   have hne:z≠x:=fun e=>n1 (e ▸ hz)
   rw [m1 z]
   constructor
   ·rintro (⟨k,_⟩ | ⟨_,k⟩)
    ·exact absurd k hne
    ·exact (hm z (List.mem_cons_of_mem _ hz)).1 k
   ·intro k; exact .inr ⟨hne,(hm z (List.mem_cons_of_mem _ hz)).2 k⟩) (fun z hz=>hx z (List.mem_cons_of_mem _ hz))
  refine ⟨s2,fun z=>?_⟩
  rw [m2 z,m1 z,List.mem_cons]
  constructor
  ·rintro (⟨k1,k2⟩ | ⟨k1,⟨k2,k3⟩ | ⟨k2,k3⟩⟩)
   ·exact .inl ⟨.inr k1,k2⟩
   ·exact .inl ⟨.inl k2,k2 ▸ k3⟩
   ·exact .inr ⟨fun h=>by rcases h with h | h; exact k2 h; exact k1 h,k3⟩
  ·rintro (⟨k1 | k1,k2⟩ | ⟨k1,k2⟩)
   ·exact .inr ⟨fun h=>n1 (k1 ▸ h),.inl ⟨k1,k1 ▸ k2⟩⟩
   ·exact .inl ⟨k1,k2⟩
   ·exact .inr ⟨fun h=>k1 (.inr h),.inr ⟨fun h=>k1 (.inl h),k2⟩⟩
theorem justOne_sorted {a b:List ByteArray} (na:F58 a=0) (nb:F58 b=0):SortedB (F74 a b):=by
 rw [justOne_eq]
 refine sortS_sorted _ ?_
 rw [List.nodup_iff_pairwise_ne,List.filter_append]
 refine List.pairwise_append.2 ⟨(sorted_nodup (neat_sorted a na)).filter _,(sorted_nodup (neat_sorted b nb)).filter _,fun x hx y hy e=>?_⟩
 subst e
 obtain ⟨x1,x2⟩:=List.mem_filter.1 hx
 obtain ⟨y1,_⟩:=List.mem_filter.1 hy
 unfold oneP at x2
 simp [x1,y1] at x2
theorem diff_makes (a b:List ByteArray) (na:F58 a=0) (nb:F58 b=0):(F74 a b).foldl (fun out x=>apD out (decide (x∈a),x)) a=b:=by
 obtain ⟨s,m⟩:=ap_fold a b (F74 a b) a (sorted_nodup (justOne_sorted na nb)) (neat_sorted a na) (fun z _=>Iff.rfl) (fun z hz=>justOne_mem.1 hz)
 refine sorted_ext s (neat_sorted b nb) fun z=>?_
 rw [m z,justOne_mem]
 by_cases h1:z∈a <;> by_cases h2:z∈b <;> simp [h1,h2]
theorem just_comm (a b:List ByteArray) (na:F58 a=0) (nb:F58 b=0):F74 b a=F74 a b :=
 sorted_ext (justOne_sorted nb na) (justOne_sorted na nb) fun z=>by rw [justOne_mem,justOne_mem]; exact Or.comm
def stI (plus:Bool) (l:ByteArray) (s:List ByteArray×Bool) (x:ByteArray):List ByteArray×Bool :=
 let s2:=bif (bif (!s.2) then ltB l x else false) then (s.1++[l],true) else s
 (bif (bif plus then true else !(x.toList==l.toList)) then s2.1++[x] else s2.1,s2.2)
theorem pass_out (l:ByteArray):∀ (xs out:List ByteArray),xs.foldl (stI false l) (out,true)=(out++xs.filter (fun x=>!(x.toList==l.toList)),true)
 | [],out=>by simp
 | x :: xs,out=>by
  rw [List.foldl_cons]
  cases h:(x.toList==l.toList) with
  | true =>
   have e:stI false l (out,true) x=(out,true):=by unfold stI; simp [h]
   rw [e,pass_out l xs,List.filter_cons_of_neg (by simp [h])]
  | false =>
   have e:stI false l (out,true) x=(out++[x],true):=by unfold stI; simp [h]
   rw [e,pass_out l xs,List.filter_cons_of_pos (by simp [h]),List.append_assoc]; rfl
theorem pass_kept (l:ByteArray):∀ (xs out:List ByteArray),xs.foldl (stI true l) (out,true)=(out++xs,true)
 | [],out=>by simp
 | x :: xs,out=>by
  rw [List.foldl_cons]
  have e:stI true l (out,true) x=(out++[x],true):=by unfold stI; simp
  rw [e,pass_kept l xs,List.append_assoc]; rfl
theorem pass_in (l:ByteArray):∀ (xs out:List ByteArray),(bif (!(xs.foldl (stI true l) (out,false)).2) then (xs.foldl (stI true l) (out,false)).1++[l] else (xs.foldl (stI true l) (out,false)).1)=out++insB l xs
 | [],out=>rfl
 | x :: xs,out=>by
  rw [List.foldl_cons,insB]
  cases h:ltB l x with
  | true =>
   have e:stI true l (out,false) x=(out++[l]++[x],true):=by unfold stI; simp [h]
   rw [e,pass_kept]
   simp
  | false =>
   have e:stI true l (out,false) x=(out++[x],false):=by unfold stI; simp [h]
   rw [e,pass_in l xs,cond_false]
   simp
theorem txt_tail (z:Bool×ByteArray):(txtD z).extract (2:Int).toNat ((txtD z).size:Int).toNat=z.2:=by
 obtain ⟨t,l⟩:=z
 refine ba_ext ?_
 have e:∀ s:ByteArray,s.size=2→((s++l).extract 2 (s++l).size).data.toList=l.data.toList:=fun s hs=>by
  have hl:(s++l).size=2+l.size:=by rw [ByteArray.size_append,hs]
  have hd:s.data.toList.length=2:=by rw [Array.length_toList]; exact hs
  have hl2:l.data.toList.length=l.size:=Array.length_toList
  rw [ByteArray.data_extract,Array.toList_extract,ByteArray.data_append,Array.toList_append,hl]
  simp only [List.extract_eq_take_drop]
  rw [List.drop_append_of_le_length (by omega),List.drop_of_length_le (by omega),List.nil_append]
  exact List.take_of_length_le (by omega)
 cases t
 ·exact e _ rfl
 ·exact e _ rfl
theorem txt_tail2 (z:Bool×ByteArray):(txtD z).extract (2:Int).toNat (txtD z).size=z.2:=txt_tail z
theorem txt_0 (z:Bool×ByteArray):(((txtD z).data.getD (Int.toNat 0) 0).toNat:Int)=bif z.1 then 45 else 43:=by
 obtain ⟨t,l⟩:=z
 have e:∀ (c:UInt8) (s:ByteArray),s.data.toList=c :: 32 :: l.data.toList→s.data.getD 0 0=c:=fun c s h=>by
  rw [Array.getD_eq_getD_getElem?,← Array.getElem?_toList,h]; rfl
 cases t
 ·show (((txtD (false,l)).data.getD 0 0).toNat:Int)=43
  rw [e 43 _ (by unfold txtD; simp)]; rfl
 ·show (((txtD (true,l)).data.getD 0 0).toNat:Int)=45
  rw [e 45 _ (by unfold txtD; simp)]; rfl
theorem dd_pass (Qa:SV) (code:List Int) (out:List ByteArray) (i:Int) (z:Bool×ByteArray) (hz:(F25 ((F24 Qa code).1) ((F24 Qa code).2)).getD i.toNat default=txtD z) :
  F5_j9 Qa code out i=.done (out.foldl (stI (!z.1) z.2) ([],z.1)):=by
 unfold F5_j9
 have hrun:=fold_loop0 out (stI (!z.1) z.2) (fun (s:List ByteArray×Bool) k=>(s.1,s.2,k)) (F5_s1 Qa code out i) (fun k s hk=>by
  obtain ⟨l,p⟩:=s
  simp only [F5_s1,ltD hk,cond_true,F5_j12,hz,nn,txt_tail2,txt_0]
  unfold stI
  obtain ⟨t,w⟩:=z
  have hlt:Op.bytesLess w.toList (out.getD k default).toList=ltB w (out.getD k default):=rfl
  simp only [hlt]
  cases t <;> cases p <;> cases ltB w (out.getD k default) <;> cases ((out.getD k default).toList==w.toList) <;> rfl) (fun s=>by
  obtain ⟨l,p⟩:=s
  simp only [F5_s1,geD,cond_false]) (fun _=>none) some (([]:List ByteArray),z.1)
 have h45:((((((F25 ((F24 Qa code).1) ((F24 Qa code).2)).getD i.toNat default).data.getD (Int.toNat 0) 0).toNat:Int))==45)=z.1:=by
  rw [hz,txt_0]
  cases z.1 <;> rfl
 rw [h45,fin_of hrun]
theorem dd_ap (out:List ByteArray) (z:Bool×ByteArray):(bif (!(out.foldl (stI (!z.1) z.2) ([],z.1)).2) then (out.foldl (stI (!z.1) z.2) ([],z.1)).1++[z.2] else (out.foldl (stI (!z.1) z.2) ([],z.1)).1)=apD out z:=by
 obtain ⟨t,l⟩:=z
 unfold apD
 cases t with
 | true =>
  show (bif (!(out.foldl (stI false l) ([],true)).2) then _ else _)=_
  rw [Bool.not_true,pass_out]
  simp
 | false =>
  show (bif (!(out.foldl (stI true l) ([],false)).2) then (out.foldl (stI true l) ([],false)).1++[l] else (out.foldl (stI true l) ([],false)).1)=_
  rw [pass_in,List.nil_append]; rfl
theorem dd_loop (Qa:SV) (code:List Int) (na:F58 (F24 Qa code).1=0) (nb:F58 (F24 Qa code).2=0):F5_j0 Qa code=.done ((F24 Qa code).2):=by
 unfold F5_j0
 have hd:=diffI_map _ _ na nb
 have hl:(F25 ((F24 Qa code).1) ((F24 Qa code).2)).length=(F74 ((F24 Qa code).1) ((F24 Qa code).2)).length:=by rw [hd,List.length_map]
 have hrun:=fold_loop0 (F74 ((F24 Qa code).1) ((F24 Qa code).2)) (fun out x=>apD out (decide (x∈(F24 Qa code).1),x)) (fun (s:List ByteArray) k=>(s,k)) (F5_s0 Qa code) (fun k s hk=>by
  have hz:(F25 ((F24 Qa code).1) ((F24 Qa code).2)).getD (k:Int).toNat default=txtD (decide ((F74 ((F24 Qa code).1) ((F24 Qa code).2)).getD k default∈(F24 Qa code).1),(F74 ((F24 Qa code).1) ((F24 Qa code).2)).getD k default):=by
   rw [hd,nn,List.getD_eq_getElem?_getD,List.getElem?_map,List.getElem?_eq_getElem hk,List.getD_eq_getElem?_getD,List.getElem?_eq_getElem hk]; rfl
  simp only [F5_s0]
  rw [hl,ltD hk,cond_true,dd_pass Qa code s (k:Int) _ hz]
  simp only [Lp.fin]
  rw [hz,txt_tail,← dd_ap]
  generalize s.foldl (stI _ _) _=q
  obtain ⟨ql,qp⟩:=q
  cases qp <;> rfl) (fun s=>by
  simp only [F5_s0]
  rw [hl,geD,cond_false]) (fun _=>none) some ((F24 Qa code).1)
 rw [List.nil_append,hl,fin_of hrun,diff_makes _ _ na nb]
theorem plain_5 (Qa:SV) (code:List Int):F5 Qa code=true:=by
 unfold F5
 cases decide ((code.length:Int)>1048576) with
 | true=>rfl
 | false =>
 rw [cond_false,diff_same ((F24 Qa code).1) ((F24 Qa code).2),decide_eq_true rfl,Bool.not_true,cond_false,merge_code,← diff_same ((F24 Qa code).1) ((F24 Qa code).2)]
 by_cases h:F58 (F24 Qa code).1=0∧F58 (F24 Qa code).2=0
 ·rw [dd_loop Qa code h.1 h.2,h.1,h.2,diffI_map _ _ h.1 h.2,diffI_map _ _ h.2 h.1,List.length_map,List.length_map,just_comm _ _ h.1 h.2]
  simp [Lp.fin]
 ·rw [diffI_nil _ _ h,diffI_nil _ _ fun k=>h ⟨k.2,k.1⟩]
  have e:((F58 (F24 Qa code).1==0)&&(F58 (F24 Qa code).2==0)&&(F58 (F24 Qa code).1==0))=false:=by
   cases h1:(F58 (F24 Qa code).1==0) with
   | false=>rfl
   | true =>
    cases h2:(F58 (F24 Qa code).2==0) with
    | false=>rfl
    | true=>exact absurd ⟨eq_of_beq h1,eq_of_beq h2⟩ h
  rw [e]; rfl
end Go.Proofs.YtabmhncnckahfaaGreatDoor
namespace Go.Proofs.YtabmhncnckahfaaGreatDoor
open Go Go.RowKit Go.ChangeShapes Go.WideShapes Go.ChangeAt
set_option maxRecDepth 100000
set_option linter.unusedVariables false
theorem op_5:OpD Tryz.prog 5 eByte:=OpD.byte Tryz.underlying5
theorem op_22:OpD Tryz.prog 22 (fun xs:List Int=>[.l 1 eByte xs]):=OpD.slice 1 Tryz.underlying22 op_5 (fun _=>rfl) (by kernel_rfl) (by decide)
theorem own:ownKnob Tryz.prog.godebug=none:=by kernel_rfl
theorem cfA:Tryz.prog.inPlace 5=Rows.fnConfDiffRow.inPlace:=by kernel_rfl
theorem cfB:Tryz.prog.unfollowed 5=Rows.fnConfDiffRow.unfollowed:=by kernel_rfl
theorem cfC:Tryz.prog.recurses 5=Rows.fnConfDiffRow.recurses:=by kernel_rfl
theorem cfD:Tryz.prog.varsNamed 5=Rows.fnConfDiffRow.named:=by kernel_rfl
set_option maxRecDepth 100000 in
def putC (cs:Array Value):Obj→Obj
 | .cells _ t fz=>.cells cs t fz
 | o=>o
noncomputable def laidWorld (os:Os):World :=
 let w:=World.holding Tryz.prog os ⟨#[.cells #[.string ⟨#[118,97,108,117,101,32,111,117,116,32,111,102,32,114,97,110,103,101]⟩] 193,.cells #[.string ⟨#[105,110,118,97,108,105,100,32,115,121,110,116,97,120]⟩] 193],#[],[]⟩
 { w with heap:=(((((((w.heap.modify ((Tryz.prog.globalNamed "math/bits.deBruijn32tab").getD 0) (putC #[(.int .u8 0),(.int .u8 1),(.int .u8 28),(.int .u8 2),(.int .u8 29),(.int .u8 14),(.int .u8 24),(.int .u8 3),(.int .u8 30),(.int .u8 22),(.int .u8 20),(.int .u8 15),(.int .u8 25),(.int .u8 17),(.int .u8 4),(.int .u8 8),(.int .u8 31),(.int .u8 27),(.int .u8 13),(.int .u8 23),(.int .u8 21),(.int .u8 19),(.int .u8 16),(.int .u8 7),(.int .u8 26),(.int .u8 12),(.int .u8 18),(.int .u8 6),(.int .u8 11),(.int .u8 5),(.int .u8 10),(.int .u8 9)])).modify ((Tryz.prog.globalNamed "math/bits.deBruijn64tab").getD 0) (putC #[(.int .u8 0),(.int .u8 1),(.int .u8 56),(.int .u8 2),(.int .u8 57),(.int .u8 49),(.int .u8 28),(.int .u8 3),(.int .u8 61),(.int .u8 58),(.int .u8 42),(.int .u8 50),(.int .u8 38),(.int .u8 29),(.int .u8 17),(.int .u8 4),(.int .u8 62),(.int .u8 47),(.int .u8 59),(.int .u8 36),(.int .u8 45),(.int .u8 43),(.int .u8 51),(.int .u8 22),(.int .u8 53),(.int .u8 39),(.int .u8 33),(.int .u8 30),(.int .u8 24),(.int .u8 18),(.int .u8 12),(.int .u8 5),(.int .u8 63),(.int .u8 55),(.int .u8 48),(.int .u8 27),(.int .u8 60),(.int .u8 41),(.int .u8 37),(.int .u8 16),(.int .u8 46),(.int .u8 35),(.int .u8 44),(.int .u8 21),(.int .u8 52),(.int .u8 32),(.int .u8 23),(.int .u8 11),(.int .u8 54),(.int .u8 26),(.int .u8 40),(.int .u8 15),(.int .u8 34),(.int .u8 20),(.int .u8 31),(.int .u8 10),(.int .u8 25),(.int .u8 14),(.int .u8 19),(.int .u8 9),(.int .u8 13),(.int .u8 8),(.int .u8 7),(.int .u8 6)])).modify ((Tryz.prog.globalNamed "internal/strconv.uint64pow10").getD 0) (putC #[(.int .u64 1),(.int .u64 10),(.int .u64 100),(.int .u64 1000),(.int .u64 10000),(.int .u64 100000),(.int .u64 1000000),(.int .u64 10000000),(.int .u64 100000000),(.int .u64 1000000000),(.int .u64 10000000000),(.int .u64 100000000000),(.int .u64 1000000000000),(.int .u64 10000000000000),(.int .u64 100000000000000),(.int .u64 1000000000000000),(.int .u64 10000000000000000),(.int .u64 100000000000000000),(.int .u64 1000000000000000000),(.int .u64 10000000000000000000)])).modify ((Tryz.prog.globalNamed "unicode/utf8.acceptRanges").getD 0) (putC #[(.int .u8 128),(.int .u8 191),(.int .u8 160),(.int .u8 191),(.int .u8 128),(.int .u8 159),(.int .u8 144),(.int .u8 191),(.int .u8 128),(.int .u8 143),(.int .u8 0),(.int .u8 0),(.int .u8 0),(.int .u8 0),(.int .u8 0),(.int .u8 0),(.int .u8 0),(.int .u8 0),(.int .u8 0),(.int .u8 0),(.int .u8 0),(.int .u8 0),(.int .u8 0),(.int .u8 0),(.int .u8 0),(.int .u8 0),(.int .u8 0),(.int .u8 0),(.int .u8 0),(.int .u8 0),(.int .u8 0),(.int .u8 0)])).modify ((Tryz.prog.globalNamed "strconv.ErrRange").getD 0) (putC #[.iface 191 (.pointer (some ⟨Tryz.prog.low+0,0,none⟩))])).modify ((Tryz.prog.globalNamed "strconv.ErrSyntax").getD 0) (putC #[.iface 191 (.pointer (some ⟨Tryz.prog.low+1,0,none⟩))])).modify ((Tryz.prog.globalNamed "unicode/utf8.first").getD 0) (putC ((Go.Pinned.utf8FirstZ.map fun n=>Value.int .u8 (n:Nat)).toArray))) }
theorem laid_met (os:Os):laidMet Tryz.prog Rows.fnConfDiffRow.laid ((laidWorld os).forCall (fun _ _=>0) ⟨#[],#[.slice none 0 0],[]⟩).memory :=
 laidMet_of_run3 8 (by kernel_rfl) (by kernel_rfl) (by kernel_rfl)
theorem reads (os:Os) {H:Type} (enc:TypeId×Value→H):∃ places,DataW.whole enc Tryz.prog ((laidWorld os).forCall (fun _ _=>0) ⟨#[],#[.slice none 0 0],[]⟩).memory Tryz.f5.params.toList Rows.fnConfDiffSpec.vars false #[.slice none 0 0].toList 8=some ([.nil],[],places) :=
 ⟨[],by kernel_rfl⟩
theorem err_laid {W:World} {l:List (String×DataW Unit)} (h:laidMet Tryz.prog l W) {n tn:String} {d:DataW Unit} (hm:(n,.iface tn d)∈l) {g:Nat} (hg:Tryz.prog.globalNamed n=some g) (ht:(Tryz.prog.globals[g]?).map (·.type)=some 94) :
  ∃ e,W.cell? ⟨g,0,none⟩=some e∧(e=.nilIface∨∃ te pe,e=.iface te pe):=by
 obtain ⟨g',t',cs,fuel,p,h1,h2,h3,h4⟩:=Lib.laidMet.reads h hm
 obtain rfl:=Option.some.inj (hg.symm.trans h1)
 obtain rfl:=Option.some.inj (ht.symm.trans h2)
 have hc:∀ i,W.cell? ⟨g,i,none⟩=cs[i]?:=fun i=>by
  unfold World.var? at h3
  rw [hg] at h3
  simp only [Option.bind_some] at h3
  split at h3
  ·rename_i c _ _ hh
   simp only [Option.some.injEq] at h3
   subst h3
   simp [World.cell?,hh]
  ·cases h3
 cases fuel with
 | zero=>simp [DataW.trod] at h4
 | succ fuel =>
  simp only [DataW.trod,Tryz.underlying94] at h4
  split at h4 <;> first
   | (cases h4; done)
   | (rename_i hcs; refine ⟨_,(hc 0).trans (by rw [← Array.getElem?_toList,hcs]; rfl),?_⟩; first | exact .inl rfl | exact .inr ⟨_,_,rfl⟩)
   | (simp at h4; done)
   | (exfalso; simp_all; done)
theorem lifted (os:Os) (started:os.Started) (H:Type) (enc:TypeId×Value→H) (F:Stop.Interp) :
  ReturnsInHanded {} Tryz.checked os 5 .any ((OpenSpec.ofChange Rows.fnConfDiffSpec).preRow enc Tryz.prog Tryz.f5 Rows.fnConfDiffRow.domain false Rows.fnConfDiffRow.laid) (((OpenSpec.ofChange Rows.fnConfDiffSpec).at F).post enc Tryz.prog Tryz.f5 false true false false):=by
 obtain ⟨places,hx⟩:=reads os enc
 refine returnsInHanded_of_row (C:=Tryz.checked) (s:=OpenSpec.ofChange Rows.fnConfDiffSpec) own started (by kernel_rfl) Tryz.func5
  (witness_row_at (enc:=enc) (C:=Tryz.checked) false (laidWorld os) #[.slice none 0 0] rfl (by kernel_rfl) (by kernel_rfl) (by kernel_rfl)
   (OpenSpec.preRow_of_cond 8 hx (by kernel_rfl) (fun k hk=>by cases hk) (by kernel_rfl) (laid_met os))) ?_
 intro W base args ds gs before hval0 hW hcnd _ _ hL hsh _
 have hL':laidMet Tryz.prog Rows.fnConfDiffRow.laid W:=by
  have h0:=hL
  unfold laidMetH at h0
  rw [show (Rows.fnConfDiffRow.laid.filter fun x=>x.2.handleName?.isSome)=[] from by kernel_rfl] at h0
  exact h0
 have hval:∀ (j:Nat) t v,Tryz.f5.params[j]?=some t→args[j]?=some v→Value.okWide Tryz.prog W .any base t v:=hval0
 have hW':=hW
 obtain ⟨p,q,hA0,hV,rfl,hfz,hnd⟩:=hW
 have hA:DataW.TrodAll enc Tryz.prog W 0 (fun _=>true) true Tryz.f5.params.toList args.toList ds p:=hA0
 rw [Tryz.params5] at hA hval
 obtain ⟨v0,vs0,d0,ds0,p0,q0,hargs,rfl,rfl,h0,r0⟩:=trodAll_cons hA
 obtain ⟨rfl,rfl,rfl⟩:=trodAll_nil r0
 obtain rfl:args=#[v0]:=by cases args; simp_all
 obtain ⟨rfl,rfl⟩:=trodVars_none hV
 obtain ⟨fu0,t0⟩:=h0
 obtain ⟨a0,n0,c0,rfl⟩:=okWide_slice Tryz.underlying22 (hval 0 22 v0 rfl rfl)
 obtain ⟨x0,u0,us0,e0,o0,-⟩:=op_22 H enc W fu0 _ _ t0
 obtain rfl:u0=_:=(List.cons.inj e0).1.symm
 have hG:GP W:=⟨fun b hb=>by
  simp only [GBe,List.nil_append,List.cons_append,List.mem_cons,List.not_mem_nil,or_false] at hb
  rcases hb with rfl | rfl
  ·exact err_laid hL' (n:= "strconv.ErrSyntax") (by unfold Rows.fnConfDiffRow; exact List.mem_cons_of_mem _ (List.mem_cons_of_mem _ (List.mem_cons_of_mem _ (List.mem_cons_of_mem _ (List.mem_cons_of_mem _ (List.mem_cons_self)))))) (show Tryz.prog.globalNamed "strconv.ErrSyntax"=some ((Tryz.prog.globalNamed "strconv.ErrSyntax").getD 0) from by kernel_rfl) (by kernel_rfl)
  ·exact err_laid hL' (n:= "strconv.ErrRange") (by unfold Rows.fnConfDiffRow; exact List.mem_cons_of_mem _ (List.mem_cons_of_mem _ (List.mem_cons_of_mem _ (List.mem_cons_of_mem _ (List.mem_cons_self))))) (show Tryz.prog.globalNamed "strconv.ErrRange"=some ((Tryz.prog.globalNamed "strconv.ErrRange").getD 0) from by kernel_rfl) (by kernel_rfl),fun b hb=>by simp only [GBi,List.nil_append,List.mem_cons,List.not_mem_nil,or_false] at hb; subst hb; exact layCutM.s1_3 W hsh,fun q hq=>by
  simp only [GBt,List.nil_append,List.mem_cons,List.not_mem_nil,or_false] at hq
  subst hq
  obtain ⟨g',t',cs,fuel,p,h1,h2,h3,h4⟩:=Lib.laidMet.reads hL' (n:= "internal/strconv.uint64pow10") (by unfold Rows.fnConfDiffRow; exact List.mem_cons_of_mem _ (List.mem_cons_of_mem _ (List.mem_cons_self)))
  obtain rfl:=Option.some.inj ((show Tryz.prog.globalNamed "internal/strconv.uint64pow10"=some ((Tryz.prog.globalNamed "internal/strconv.uint64pow10").getD 0) from by kernel_rfl).symm.trans h1)
  obtain rfl:=Option.some.inj ((show (Tryz.prog.globals[(Tryz.prog.globalNamed "internal/strconv.uint64pow10").getD 0]?).map (·.type)=some 195 from by kernel_rfl).symm.trans h2)
  have hc:=Lib.cells_of_tab (k:=.u64) (zs:=Lib.pow10Tab) Tryz.underlying195 Tryz.underlying151 (by kernel_rfl) (by kernel_rfl) h4
  unfold World.var? at h3
  rw [(show Tryz.prog.globalNamed "internal/strconv.uint64pow10"=some ((Tryz.prog.globalNamed "internal/strconv.uint64pow10").getD 0) from by kernel_rfl)] at h3
  simp only [Option.bind_some] at h3
  split at h3
  ·rename_i c T fz hh
   simp only [Option.some.injEq] at h3
   subst h3
   exact ⟨T,fz,hh.trans (by congr 1; congr 1; exact Array.ext' (by simpa using hc))⟩
  ·cases h3⟩
 have hc:=law_call (W:=W) (vs:=[.slice a0 n0 c0]) (ok5 (⟨a0,n0,c0⟩:SV) x0) trivial (x:=.bool (F5 (⟨a0,n0,c0⟩:SV) x0)) hG ⟨_,_,[],[],rfl,⟨⟨rfl,o0⟩,rfl⟩,⟨rfl,rfl⟩,rfl,List.nodup_nil⟩ rfl rfl
 rw [plain_5 (⟨a0,n0,c0⟩:SV) x0] at hc
 refine hc.mono fun e W' ⟨he,hb⟩=>?_
 subst he
 exact ⟨_,rfl,law_post rfl hW' hb rfl Tryz.underlying4 rfl rfl rfl laid (by decide +kernel)⟩
theorem said_FnConfDiff:Rows.FnConfDiffSaid :=
 OpenClaim.holds_of_cond 5 Tryz.f5 rfl rfl rfl rfl rfl rfl rfl ⟨rfl,rfl,rfl,rfl,rfl⟩ rfl rfl rfl rfl rfl (by kernel_rfl) Tryz.func5 (by
   show joinedFacts Tryz.prog 5 Tryz.f5 (OpenSpec.ofChange Rows.fnConfDiffSpec).bare Rows.fnConfDiffRow=true
   simp only [joinedFacts,laid,cfMaps,cfKeys,cfLifts,cfHeard,cfEnter,cfMake,cfA,cfB,cfC,cfD,Bool.and_true]
   kernel_rfl)
  (of_decide_eq_true (by kernel_rfl)) (by unfold Func.isWrapper; first | (rw [if_pos (by decide +kernel)]; kernel_rfl) | (rw [if_neg (by decide +kernel)]; exact ⟨rfl,rfl⟩))
  (fun os started H enc _ F=>by rw [OpenClaim.pre_eq_preRow]; exact lifted os started H enc F)
theorem plainArgs (f:FuncId) (fn:Func) (hf:Tryz.pinned.checked.prog.funcNamed "loop.example/tern/laws.FnConfDiff"=some f) (hfn:Tryz.pinned.checked.prog.funcs[f]?=some fn) :
  true=Tryz.pinned.checked.prog.looks []∧∀ (j:Nat) t,fn.params[j]?=some t→Tryz.pinned.checked.prog.wantsStandIn t=false:=by
 obtain rfl:f=5:=Option.some.inj ((show Tryz.prog.funcNamed "loop.example/tern/laws.FnConfDiff"=some 5 by kernel_rfl).symm.trans hf) |>.symm
 obtain rfl:fn=Tryz.f5:=(Option.some.inj (Tryz.func5.symm.trans hfn)).symm
 refine ⟨by kernel_rfl,fun j t ht=>?_⟩
 rw [Tryz.params5] at ht
 have hm:=Array.mem_of_getElem? ht
 simp only [List.mem_toArray,List.mem_cons,List.not_mem_nil,or_false] at hm
 first | (obtain rfl:=hm; exact (show Tryz.prog.wantsStandIn 22=false by kernel_rfl))
theorem card_wf:Rows.fnConfDiffRow.wfByText (OpenSpec.ofChange Rows.fnConfDiffSpec)=true:=by kernel_rfl
theorem card_main:Tryz.prog.mainIs=some (Rows.fnConfDiffCard.stood.harness.1,Rows.fnConfDiffCard.stood.harness.2.toList):=by kernel_rfl
theorem card_goes:false=Rows.fnConfDiffRow.goesBy Tryz.prog:=by kernel_rfl
theorem proved_FnConfDiff:Rows.FnConfDiffCardSaid :=
 Claim7.holds_tied_plain_at .later [] _ _ _ _ said_FnConfDiff (fun _ h=>by cases h) card_wf (fun _ h=>by cases h) fnConfDiff_row_tie rfl ⟨rfl,rfl⟩ card_main rfl plainArgs card_goes
#print axioms proved_FnConfDiff
end Go.Proofs.YtabmhncnckahfaaGreatDoor
