/- The card's statement of FnConfMay: for all arguments the law returns true, without further conditions. Texts put together: VDM5, PDM5, VDM6, PDM6, PCM1, PTKC, VDM7, PCM2, C62. -/
import Derived.Test.YtabmhncnckahfaaGreatDoorRows
import Derived.Test.YtabmhncnckahfaaGreatDoorCards
import Derived.Test.YtabmhncnckahfaaGreatDoorTie
import Derived.Deep.DeepHandedRow
import Derived.Deep.DeepLaidRun
import Derived.JoinedCond
import Derived.Lib.LaidU8
import Derived.Test.YtabmhncnckahfaaGreatDoorZC62E
namespace Go.Proofs.YtabmhncnckahfaaGreatDoor
open Go.RowKit
set_option maxRecDepth 100000
set_option linter.unusedVariables false
set_option linter.unusedSimpArgs false
abbrev w79_:ByteArray:=⟨#[49,49]⟩
abbrev w80_:ByteArray:=⟨#[49,50]⟩
abbrev w81_:ByteArray:=⟨#[49,51]⟩
abbrev w82_:ByteArray:=⟨#[49,52]⟩
abbrev w83_:ByteArray:=⟨#[49,53]⟩
abbrev w84_:ByteArray:=⟨#[49,54]⟩
abbrev w85_:ByteArray:=⟨#[49,55]⟩
abbrev w86_:ByteArray:=⟨#[49,56]⟩
abbrev w87_:ByteArray:=⟨#[49,57]⟩
abbrev w88_:ByteArray:=⟨#[50,48]⟩
abbrev w89_:ByteArray:=⟨#[50,49]⟩
abbrev w90_:ByteArray:=⟨#[50,51]⟩
abbrev w91_:ByteArray:=⟨#[50,52]⟩
abbrev w92_:ByteArray:=⟨#[50,53]⟩
abbrev w93_:ByteArray:=⟨#[50,54]⟩
abbrev w94_:ByteArray:=⟨#[114,117,108,101,32,122,32]⟩
abbrev w95_:ByteArray:=⟨#[32,100,101,110,121,32,48,46,48,47,48,32,48,46,48,47,48,32,48]⟩
abbrev w96_:ByteArray:=⟨#[32,120]⟩
abbrev w97_:ByteArray:=⟨#[104,111,115,116,32,97,32,98]⟩
abbrev w98_:ByteArray:=⟨#[117,115,101,114,32,97,110,110]⟩
abbrev w99_:ByteArray:=⟨#[117,115,101,114,32,97,110,110,32,97,108,108,44,104,111,115,116]⟩
abbrev w100_:ByteArray:=⟨#[117,115,101,114,32,97,110,110,32,114,117,108,101,44,114,111,117,116,101]⟩
abbrev w101_:ByteArray:=⟨#[112,111,114,116,32,56,32,49,48,46,48,47,56]⟩
abbrev w102_:ByteArray:=⟨#[112,111,114,116,32,49,32,49,48,46,48,47,55]⟩
abbrev w103_:ByteArray:=⟨#[112,111,114,116,32,49,32,49,48,46,48,47,56,32,105,110]⟩
abbrev w104_:ByteArray:=⟨#[112,111,114,116,32,49,32,49,48,46,48,47,56,32,111,110,32,119,101,98]⟩
abbrev w105_:ByteArray:=⟨#[114,117,108,101,32,119,101,98,32,49,48,48,32,100,101,110,121,32,48,46,48,47,48,32,48,46,48,47,48,32,48]⟩
abbrev w106_:ByteArray:=⟨#[114,117,108,101,32,119,101,98,32,49,32,100,114,111,112,32,48,46,48,47,48,32,48,46,48,47,48,32,48]⟩
abbrev w107_:ByteArray:=⟨#[114,117,108,101,32,119,101,98,32,49,32,100,101,110,121,32,48,46,48,47,48,32,48,46,48,47,48,32,56]⟩
abbrev w108_:ByteArray:=⟨#[114,111,117,116,101,32,49,48,46,48,47,56,32,49,48,46,50,53,54]⟩
abbrev w109_:ByteArray:=⟨#[112,101,101,114,32,49,48,46,49,32,48,32,55]⟩
abbrev w110_:ByteArray:=⟨#[112,101,101,114,32,49,48,46,49,32,49,32,48]⟩
abbrev w111_:ByteArray:=⟨#[112,101,101,114,32,49,48,46,49,32,49,32,49,48,48,48,48,48,48]⟩
abbrev w112_:ByteArray:=⟨#[100,111,111,114,32,48,32,49,32,49,48,46,49,32,49]⟩
abbrev w113_:ByteArray:=⟨#[100,111,111,114,32,49,32,54,53,53,51,54,32,49,48,46,49,32,49]⟩
abbrev w114_:ByteArray:=⟨#[100,111,111,114,32,49,32,49,32,49,48,46,49,32,48]⟩
abbrev w115_:ByteArray:=⟨#[110,97,116,32,49,48,46,48,47,56,32,50,48,48,46,49,32,48,32,49]⟩
abbrev w116_:ByteArray:=⟨#[110,97,116,32,49,48,46,48,47,56,32,50,48,48,46,49,32,49]⟩
abbrev w117_:ByteArray:=⟨#[102,114,111,98,32,49]⟩
def F49_s0 (r1:l51Rd) (lines:List ByteArray):(List ByteArray×Int×Int)→Lp (List ByteArray×Int×Int) (List ByteArray×Int):=fun (out,i40,r2) =>
 bif (decide (i40<(16+(F48 ⟨r1.b,r2⟩ 2).1))) then (.next ((F79 out (((⟨#[114,117,108,101,32,122,32]⟩:ByteArray)++(([(⟨#[49,48]⟩:ByteArray),(⟨#[49,49]⟩:ByteArray),(⟨#[49,50]⟩:ByteArray),(⟨#[49,51]⟩:ByteArray),(⟨#[49,52]⟩:ByteArray),(⟨#[49,53]⟩:ByteArray),(⟨#[49,54]⟩:ByteArray),(⟨#[49,55]⟩:ByteArray),(⟨#[49,56]⟩:ByteArray),(⟨#[49,57]⟩:ByteArray),(⟨#[50,48]⟩:ByteArray),(⟨#[50,49]⟩:ByteArray),(⟨#[50,50]⟩:ByteArray),(⟨#[50,51]⟩:ByteArray),(⟨#[50,52]⟩:ByteArray),(⟨#[50,53]⟩:ByteArray),(⟨#[50,54]⟩:ByteArray)]:List ByteArray).getD (Int.toNat i40) default))++(⟨#[32,100,101,110,121,32,48,46,48,47,48,32,48,46,48,47,48,32,48]⟩:ByteArray))),(i40+1),(F48 ⟨r1.b,r2⟩ 2).2)) else (.done (out,i40,(F48 ⟨r1.b,r2⟩ 2).2))
def F49 (r1:l51Rd) (lines:List ByteArray):List ByteArray×Int :=
 bif (bif ((lines.length:Int)==0) then true else ((F48 ⟨r1.b,r1.p⟩ 5).1==0)) then ((runL (F49_s0 r1 lines) ((Int.toNat (17-0))+1) (lines,0,(bif (!((lines.length:Int)==0)) then (F48 ⟨r1.b,r1.p⟩ 5).2 else r1.p))).fin (fun r=>r) (fun (out,i40,r2)=>(out,r2))) else (bif ((F48 ⟨r1.b,(F48 ⟨r1.b,(bif (!((lines.length:Int)==0)) then (F48 ⟨r1.b,r1.p⟩ 5).2 else r1.p)⟩ (lines.length:Int)).2⟩ 4).1==0) then ((lines.set (F48 ⟨r1.b,(bif (!((lines.length:Int)==0)) then (F48 ⟨r1.b,r1.p⟩ 5).2 else r1.p)⟩ (lines.length:Int)).1.toNat ((lines.getD (Int.toNat (F48 ⟨r1.b,(bif (!((lines.length:Int)==0)) then (F48 ⟨r1.b,r1.p⟩ 5).2 else r1.p)⟩ (lines.length:Int)).1) default)++(F67 ⟨r1.b,(F48 ⟨r1.b,(F48 ⟨r1.b,(bif (!((lines.length:Int)==0)) then (F48 ⟨r1.b,r1.p⟩ 5).2 else r1.p)⟩ (lines.length:Int)).2⟩ 4).2⟩ ([(⟨#[32]⟩:ByteArray),(⟨#[32,120]⟩:ByteArray),(⟨#[48]⟩:ByteArray),(⟨#[35]⟩:ByteArray)]:List ByteArray)).1)),(F67 ⟨r1.b,(F48 ⟨r1.b,(F48 ⟨r1.b,(bif (!((lines.length:Int)==0)) then (F48 ⟨r1.b,r1.p⟩ 5).2 else r1.p)⟩ (lines.length:Int)).2⟩ 4).2⟩ ([(⟨#[32]⟩:ByteArray),(⟨#[32,120]⟩:ByteArray),(⟨#[48]⟩:ByteArray),(⟨#[35]⟩:ByteArray)]:List ByteArray)).2) else (bif ((F48 ⟨r1.b,(F48 ⟨r1.b,(bif (!((lines.length:Int)==0)) then (F48 ⟨r1.b,r1.p⟩ 5).2 else r1.p)⟩ (lines.length:Int)).2⟩ 4).1==1) then ((lines++[(lines.getD (Int.toNat (F48 ⟨r1.b,(bif (!((lines.length:Int)==0)) then (F48 ⟨r1.b,r1.p⟩ 5).2 else r1.p)⟩ (lines.length:Int)).1) default)]),(F48 ⟨r1.b,(F48 ⟨r1.b,(bif (!((lines.length:Int)==0)) then (F48 ⟨r1.b,r1.p⟩ 5).2 else r1.p)⟩ (lines.length:Int)).2⟩ 4).2) else (bif ((F48 ⟨r1.b,(F48 ⟨r1.b,(bif (!((lines.length:Int)==0)) then (F48 ⟨r1.b,r1.p⟩ 5).2 else r1.p)⟩ (lines.length:Int)).2⟩ 4).1==2) then ((lines.set (F48 ⟨r1.b,(bif (!((lines.length:Int)==0)) then (F48 ⟨r1.b,r1.p⟩ 5).2 else r1.p)⟩ (lines.length:Int)).1.toNat (F67 ⟨r1.b,(F48 ⟨r1.b,(F48 ⟨r1.b,(bif (!((lines.length:Int)==0)) then (F48 ⟨r1.b,r1.p⟩ 5).2 else r1.p)⟩ (lines.length:Int)).2⟩ 4).2⟩ ([(⟨#[]⟩:ByteArray),(⟨#[104,111,115,116]⟩:ByteArray),(⟨#[104,111,115,116,32,97,32,98]⟩:ByteArray),(⟨#[117,115,101,114,32,97,110,110]⟩:ByteArray),(⟨#[117,115,101,114,32,97,110,110,32,97,108,108,44,104,111,115,116]⟩:ByteArray),(⟨#[117,115,101,114,32,97,110,110,32,114,117,108,101,44,114,111,117,116,101]⟩:ByteArray),(⟨#[112,111,114,116,32,56,32,49,48,46,48,47,56]⟩:ByteArray),(⟨#[112,111,114,116,32,49,32,49,48,46,48,47,55]⟩:ByteArray),(⟨#[112,111,114,116,32,49,32,49,48,46,48,47,56,32,105,110]⟩:ByteArray),(⟨#[112,111,114,116,32,49,32,49,48,46,48,47,56,32,111,110,32,119,101,98]⟩:ByteArray),(⟨#[114,117,108,101,32,119,101,98,32,49,48,48,32,100,101,110,121,32,48,46,48,47,48,32,48,46,48,47,48,32,48]⟩:ByteArray),(⟨#[114,117,108,101,32,119,101,98,32,49,32,100,114,111,112,32,48,46,48,47,48,32,48,46,48,47,48,32,48]⟩:ByteArray),(⟨#[114,117,108,101,32,119,101,98,32,49,32,100,101,110,121,32,48,46,48,47,48,32,48,46,48,47,48,32,56]⟩:ByteArray),(⟨#[114,111,117,116,101,32,49,48,46,48,47,56,32,49,48,46,50,53,54]⟩:ByteArray),(⟨#[112,101,101,114,32,49,48,46,49,32,48,32,55]⟩:ByteArray),(⟨#[112,101,101,114,32,49,48,46,49,32,49,32,48]⟩:ByteArray),(⟨#[112,101,101,114,32,49,48,46,49,32,49,32,49,48,48,48,48,48,48]⟩:ByteArray),(⟨#[100,111,111,114,32,48,32,49,32,49,48,46,49,32,49]⟩:ByteArray),(⟨#[100,111,111,114,32,49,32,54,53,53,51,54,32,49,48,46,49,32,49]⟩:ByteArray),(⟨#[100,111,111,114,32,49,32,49,32,49,48,46,49,32,48]⟩:ByteArray),(⟨#[110,97,116,32,49,48,46,48,47,56,32,50,48,48,46,49,32,48,32,49]⟩:ByteArray),(⟨#[110,97,116,32,49,48,46,48,47,56,32,50,48,48,46,49,32,49]⟩:ByteArray),(⟨#[102,114,111,98,32,49]⟩:ByteArray)]:List ByteArray)).1),(F67 ⟨r1.b,(F48 ⟨r1.b,(F48 ⟨r1.b,(bif (!((lines.length:Int)==0)) then (F48 ⟨r1.b,r1.p⟩ 5).2 else r1.p)⟩ (lines.length:Int)).2⟩ 4).2⟩ ([(⟨#[]⟩:ByteArray),(⟨#[104,111,115,116]⟩:ByteArray),(⟨#[104,111,115,116,32,97,32,98]⟩:ByteArray),(⟨#[117,115,101,114,32,97,110,110]⟩:ByteArray),(⟨#[117,115,101,114,32,97,110,110,32,97,108,108,44,104,111,115,116]⟩:ByteArray),(⟨#[117,115,101,114,32,97,110,110,32,114,117,108,101,44,114,111,117,116,101]⟩:ByteArray),(⟨#[112,111,114,116,32,56,32,49,48,46,48,47,56]⟩:ByteArray),(⟨#[112,111,114,116,32,49,32,49,48,46,48,47,55]⟩:ByteArray),(⟨#[112,111,114,116,32,49,32,49,48,46,48,47,56,32,105,110]⟩:ByteArray),(⟨#[112,111,114,116,32,49,32,49,48,46,48,47,56,32,111,110,32,119,101,98]⟩:ByteArray),(⟨#[114,117,108,101,32,119,101,98,32,49,48,48,32,100,101,110,121,32,48,46,48,47,48,32,48,46,48,47,48,32,48]⟩:ByteArray),(⟨#[114,117,108,101,32,119,101,98,32,49,32,100,114,111,112,32,48,46,48,47,48,32,48,46,48,47,48,32,48]⟩:ByteArray),(⟨#[114,117,108,101,32,119,101,98,32,49,32,100,101,110,121,32,48,46,48,47,48,32,48,46,48,47,48,32,56]⟩:ByteArray),(⟨#[114,111,117,116,101,32,49,48,46,48,47,56,32,49,48,46,50,53,54]⟩:ByteArray),(⟨#[112,101,101,114,32,49,48,46,49,32,48,32,55]⟩:ByteArray),(⟨#[112,101,101,114,32,49,48,46,49,32,49,32,48]⟩:ByteArray),(⟨#[112,101,101,114,32,49,48,46,49,32,49,32,49,48,48,48,48,48,48]⟩:ByteArray),(⟨#[100,111,111,114,32,48,32,49,32,49,48,46,49,32,49]⟩:ByteArray),(⟨#[100,111,111,114,32,49,32,54,53,53,51,54,32,49,48,46,49,32,49]⟩:ByteArray),(⟨#[100,111,111,114,32,49,32,49,32,49,48,46,49,32,48]⟩:ByteArray),(⟨#[110,97,116,32,49,48,46,48,47,56,32,50,48,48,46,49,32,48,32,49]⟩:ByteArray),(⟨#[110,97,116,32,49,48,46,48,47,56,32,50,48,48,46,49,32,49]⟩:ByteArray),(⟨#[102,114,111,98,32,49]⟩:ByteArray)]:List ByteArray)).2) else ((F79 (F68 lines (F48 ⟨r1.b,(bif (!((lines.length:Int)==0)) then (F48 ⟨r1.b,r1.p⟩ 5).2 else r1.p)⟩ (lines.length:Int)).1) (F86 ⟨r1.b,(F48 ⟨r1.b,(F48 ⟨r1.b,(bif (!((lines.length:Int)==0)) then (F48 ⟨r1.b,r1.p⟩ 5).2 else r1.p)⟩ (lines.length:Int)).2⟩ 4).2⟩).1),(F86 ⟨r1.b,(F48 ⟨r1.b,(F48 ⟨r1.b,(bif (!((lines.length:Int)==0)) then (F48 ⟨r1.b,r1.p⟩ 5).2 else r1.p)⟩ (lines.length:Int)).2⟩ 4).2⟩).2))))
abbrev lN49_0 (r1:l51Rd) (lines:List ByteArray):Nat×(List ByteArray×Int×Int):=(((Int.toNat (17-0))+1),(lines,0,(bif (!((lines.length:Int)==0)) then (F48 ⟨r1.b,r1.p⟩ 5).2 else r1.p)))
abbrev lI49_0 (r1:l51Rd) (m39:Nat) (out:List ByteArray) (i40:Int) (r2:Int):Prop:=Int.toNat (17-i40)<m39∧(out.length:Int)≤17+i40∧(∀ q:Nat,(out.getD q default).size≤1000)∧i40≤(17:Int)∧(0:Int)≤r2∧r2≤r1.p+2+i40∧(0:Int)≤i40
abbrev lX49_0 (r1:l51Rd) (lines:List ByteArray):Lp (List ByteArray×Int×Int) (List ByteArray×Int):=LpX (F49_s0 r1 lines) (lN49_0 r1 lines)
abbrev lJ49_0 (r1:l51Rd) (lines:List ByteArray) (i:Nat×(List ByteArray×Int×Int)):Prop:=LpJ (F49_s0 r1 lines) (lN49_0 r1 lines) i (lI49_0 r1 i.1 i.2.1 i.2.2.1 i.2.2.2)
abbrev lH49_0 (r1:l51Rd) (lines:List ByteArray) (i:Nat×(List ByteArray×Int×Int)) (m39:Nat) (out:List ByteArray) (i40:Int) (r2:Int):Prop:=LpH (F49_s0 r1 lines) (lN49_0 r1 lines) i m39 (out,i40,r2) (lI49_0 r1 (m39+1) out i40 r2)
abbrev lE49_0 (r1X:SV) (r1:l51Rd) (out:List ByteArray) (i40:Int) (r2:Int) (out_:List ByteArray) (i40_:Int) (r2_:Int) (K39:Prop):Prop:=((.int .i64 i40:Value)=.int .i64 i40_)∧((.int .i64 r2:Value)=.int .i64 r2_)∧(Rf (sv r1X))∧(Im (.l 1 eByte r1.b))∧(Imp (.l 1 eStr out) (.l 1 eStr out_))∧K39
theorem un49_0 (r1:l51Rd) (lines:List ByteArray) (i:Nat×(List ByteArray×Int×Int)) (h:lJ49_0 r1 lines i):lH49_0 r1 lines i (i.1-1) i.2.1 i.2.2.1 i.2.2.2:=⟨hd1 h.1 h.2.1,hd3 h.2.1,hd2 h.2.1,h.2.2⟩
theorem bk49_0 (r1X:SV) (r1:l51Rd) (lines:List ByteArray) (i:Nat×(List ByteArray×Int×Int)) (m39:Nat) (out:List ByteArray) (i40:Int) (r2:Int) (hl:m39<i.1) (e:runL (F49_s0 r1 lines) m39 (out,i40,r2)=lX49_0 r1 lines) (h:lI49_0 r1 m39 out i40 r2):∃ j:Nat×(List ByteArray×Int×Int),lE49_0 r1X r1 out i40 r2 j.2.1 j.2.2.1 j.2.2.2 (lJ49_0 r1 lines j∧j.1<i.1):=⟨(m39,(out,i40,r2)),rfl,rfl,rfl,Imp.refl _,Imp.refl _,⟨e,h⟩,hl⟩
theorem en49_0 (r1X:SV) (r1:l51Rd) (lines:List ByteArray) (h:(lines.length:Int)≤17+0∧(∀ q:Nat,(lines.getD q default).size≤1000)∧0≤(17:Int)∧(0:Int)≤(bif (!((lines.length:Int)==0)) then (F48 ⟨r1.b,r1.p⟩ 5).2 else r1.p)∧(bif (!((lines.length:Int)==0)) then (F48 ⟨r1.b,r1.p⟩ 5).2 else r1.p)≤r1.p+2+0∧(0:Int)≤0):lE49_0 r1X r1 lines 0 (bif (!((lines.length:Int)==0)) then (F48 ⟨r1.b,r1.p⟩ 5).2 else r1.p) lines 0 (bif (!((lines.length:Int)==0)) then (F48 ⟨r1.b,r1.p⟩ 5).2 else r1.p) (lJ49_0 r1 lines (lN49_0 r1 lines)):=⟨rfl,rfl,rfl,Imp.refl _,Imp.refl _,rfl,Nat.lt_succ_self _,h⟩
def S49 (r1X:SV) (gr1:Nat) (r1:l51Rd) (lines:List ByteArray):Spec:=⟨[.ptg gr1 86 (sv r1X) (.l 1 eByte r1.b) [.v (vI r1.p)] [.v (vI (F49 r1 lines).2)],.r (.c (.l 1 eStr lines))],.ow (.l 1 eStr (F49 r1 lines).1),0≤r1.p∧r1.p≤800000000∧r1.b.length≤2000∧LQ lines⟩
set_option maxHeartbeats 4000000 in
theorem ok49 (r1X:SV) (gr1:Nat) (r1:l51Rd) (lines:List ByteArray):(S49 r1X gr1 r1 lines).ok Tryz.prog 49 :=
 fnG_ok mixed (fn:=Tryz.f49) (ct:=.seqk [(0,0),(1,0)] .no (.seq (.reg [(1,kh80a lines)]) (.seq (.seq (.reg [(5,kh48l r1X 0 r1.b r1.p 5)]) (.cond (.seq (.seqk [(0,0),(5,0)] .no (.blk (.loop (ι:=Nat×(List ByteArray×Int×Int)) (fun i=>(fun (out:List ByteArray) (i40:Int) (r2:Int)=>(⟨[(0,some (.p 0 0)),(5,some (.h 2 0)),(6,some (.v (vI i40)))],[(0,some (.box 86 [.h 1 0,.v (vI r2)])),(1,some (.vl (sv r1X) (.l 1 eByte r1.b))),(2,some (.own 2 (.l 1 eStr out)))],3⟩:St)) i.2.1 i.2.2.1 i.2.2.2) (lJ49_0 r1 lines) (fun i=>i.1) (lN49_0 r1 lines) (fun i=>(fun (out:List ByteArray) (i40:Int) (r2:Int)=>(.seq (.seq (.reg [(2,kh48l r1X 1 r1.b r2 2),(3,.bnd)]) (.cond .no .no)) (.seq (.blk (.reg [(1,.dat (.l 1 eStr ([w59_,w79_,w80_,w81_,w82_,w83_,w84_,w85_,w86_,w87_,w88_,w89_,w63_,w90_,w91_,w92_,w93_]:List ByteArray))),(7,kh79 out ((w94_++(([w59_,w79_,w80_,w81_,w82_,w83_,w84_,w85_,w86_,w87_,w88_,w89_,w63_,w90_,w91_,w92_,w93_]:List ByteArray).getD (Int.toNat i40) default))++w95_))])) (.reg [(1,.bnd)])))) i.2.1 i.2.2.1 i.2.2.2)))) (.seq .no .no)) .no)) (.seq (.reg [(3,kh48l r1X 0 r1.b (bif (!((lines.length:Int)==0)) then (F48 ⟨r1.b,r1.p⟩ 5).2 else r1.p) (lines.length:Int))]) (.seq (.seq (.reg [(1,kh48l r1X 0 r1.b (F48 ⟨r1.b,(bif (!((lines.length:Int)==0)) then (F48 ⟨r1.b,r1.p⟩ 5).2 else r1.p)⟩ (lines.length:Int)).2 4)]) (.blk (.seq .no (.cond (.reg [(7,.dat (.l 1 eStr ([w15_,w96_,w54_,w14_]:List ByteArray))),(8,kh67l r1X 0 r1.b (F48 ⟨r1.b,(F48 ⟨r1.b,(bif (!((lines.length:Int)==0)) then (F48 ⟨r1.b,r1.p⟩ 5).2 else r1.p)⟩ (lines.length:Int)).2⟩ 4).2 ([w15_,w96_,w54_,w14_]:List ByteArray)),(11,.dat (.l 1 eStr (lines.set (F48 ⟨r1.b,(bif (!((lines.length:Int)==0)) then (F48 ⟨r1.b,r1.p⟩ 5).2 else r1.p)⟩ (lines.length:Int)).1.toNat ((lines.getD (Int.toNat (F48 ⟨r1.b,(bif (!((lines.length:Int)==0)) then (F48 ⟨r1.b,r1.p⟩ 5).2 else r1.p)⟩ (lines.length:Int)).1) default)++(F67 ⟨r1.b,(F48 ⟨r1.b,(F48 ⟨r1.b,(bif (!((lines.length:Int)==0)) then (F48 ⟨r1.b,r1.p⟩ 5).2 else r1.p)⟩ (lines.length:Int)).2⟩ 4).2⟩ ([w15_,w96_,w54_,w14_]:List ByteArray)).1))))]) (.seq .no (.cond (.reg [(6,.dat (.l 1 eStr (lines++[(lines.getD (Int.toNat (F48 ⟨r1.b,(bif (!((lines.length:Int)==0)) then (F48 ⟨r1.b,r1.p⟩ 5).2 else r1.p)⟩ (lines.length:Int)).1) default)])))]) (.seq .no (.cond (.reg [(3,.dat (.l 1 eStr ([w13_,w4_,w97_,w98_,w99_,w100_,w101_,w102_,w103_,w104_,w105_,w106_,w107_,w108_,w109_,w110_,w111_,w112_,w113_,w114_,w115_,w116_,w117_]:List ByteArray))),(4,kh67l r1X 0 r1.b (F48 ⟨r1.b,(F48 ⟨r1.b,(bif (!((lines.length:Int)==0)) then (F48 ⟨r1.b,r1.p⟩ 5).2 else r1.p)⟩ (lines.length:Int)).2⟩ 4).2 ([w13_,w4_,w97_,w98_,w99_,w100_,w101_,w102_,w103_,w104_,w105_,w106_,w107_,w108_,w109_,w110_,w111_,w112_,w113_,w114_,w115_,w116_,w117_]:List ByteArray)),(6,.dat (.l 1 eStr (lines.set (F48 ⟨r1.b,(bif (!((lines.length:Int)==0)) then (F48 ⟨r1.b,r1.p⟩ 5).2 else r1.p)⟩ (lines.length:Int)).1.toNat (F67 ⟨r1.b,(F48 ⟨r1.b,(F48 ⟨r1.b,(bif (!((lines.length:Int)==0)) then (F48 ⟨r1.b,r1.p⟩ 5).2 else r1.p)⟩ (lines.length:Int)).2⟩ 4).2⟩ ([w13_,w4_,w97_,w98_,w99_,w100_,w101_,w102_,w103_,w104_,w105_,w106_,w107_,w108_,w109_,w110_,w111_,w112_,w113_,w114_,w115_,w116_,w117_]:List ByteArray)).1)))]) (.reg [(2,.call 68 (S68 lines (F48 ⟨r1.b,(bif (!((lines.length:Int)==0)) then (F48 ⟨r1.b,r1.p⟩ 5).2 else r1.p)⟩ (lines.length:Int)).1) (ok68 lines (F48 ⟨r1.b,(bif (!((lines.length:Int)==0)) then (F48 ⟨r1.b,r1.p⟩ 5).2 else r1.p)⟩ (lines.length:Int)).1) none),(4,kh86l r1X 0 r1.b (F48 ⟨r1.b,(F48 ⟨r1.b,(bif (!((lines.length:Int)==0)) then (F48 ⟨r1.b,r1.p⟩ 5).2 else r1.p)⟩ (lines.length:Int)).2⟩ 4).2),(5,.call 79 (S79 (F68 lines (F48 ⟨r1.b,(bif (!((lines.length:Int)==0)) then (F48 ⟨r1.b,r1.p⟩ 5).2 else r1.p)⟩ (lines.length:Int)).1) (F86 ⟨r1.b,(F48 ⟨r1.b,(F48 ⟨r1.b,(bif (!((lines.length:Int)==0)) then (F48 ⟨r1.b,r1.p⟩ 5).2 else r1.p)⟩ (lines.length:Int)).2⟩ 4).2⟩).1) (ok79 (F68 lines (F48 ⟨r1.b,(bif (!((lines.length:Int)==0)) then (F48 ⟨r1.b,r1.p⟩ 5).2 else r1.p)⟩ (lines.length:Int)).1) (F86 ⟨r1.b,(F48 ⟨r1.b,(F48 ⟨r1.b,(bif (!((lines.length:Int)==0)) then (F48 ⟨r1.b,r1.p⟩ 5).2 else r1.p)⟩ (lines.length:Int)).2⟩ 4).2⟩).1) none)]))))))))) (.seq .no .no)))))) Tryz.func49 (fun (hp:0≤r1.p∧r1.p≤800000000∧r1.b.length≤2000∧LQ lines)=>have hpre0:=hp.1; have hpre1:=hp.2.1; have hpre2:=hp.2.2.1; have hpre3:=hp.2.2.2; kn r1.b fun _=>kn lines fun _=>kc80a lines (by (have h9:=lq_len (by assumption:LQ lines); omega)) (ai (fun k3:((lines.length:Int)==0)=false=>have _:=beqF k3; (ai (by omega:0≤r1.p) (ai (by omega:r1.p≤1000000000) (by omega:r1.b.length≤2000)))) (ai (fun k4:((lines.length:Int)==0)=false=>have _:=beqF k4; (Eq.refl (sv r1X))) (ai (fun k5:((lines.length:Int)==0)=false=>have _:=beqF k5; (Imp.refl (.l 1 eByte r1.b))) (ai (fun k6:((lines.length:Int)==0)=false=>have _:=beqF k6; (Imps.refl [.v (vI r1.p)])) (ai (fun k7:((lines.length:Int)==0)=false=>have _:=beqF k7; (Imp.refl (.v (vI 5)))) (have gv1:0≤(F48 ⟨r1.b,r1.p⟩ 5).1∧(1≤(5:Int)→(F48 ⟨r1.b,r1.p⟩ 5).1<(5:Int))∧(F48 ⟨r1.b,r1.p⟩ 5).2=r1.p+1:=pick_in (⟨r1.b,r1.p⟩:l51Rd) 5 (by omega:0≤r1.p) (by omega:r1.p≤1000000000); ifb (bif ((lines.length:Int)==0) then true else ((F48 ⟨r1.b,r1.p⟩ 5).1==0)) (fun h8=>kn r1.b fun _=>kn lines fun _=>ai (en49_0 r1X r1 lines (by refine ⟨?_,?_,?_,?_,?_,?_⟩ <;> first | omega | (simp only [lens,ib] at*<;> omega) | exact put_szN (by assumption) (szLe (app_le (app_le (lit_le _) (getD_sz (n:=2) (by decide) _)) (lit_le _)) (by decide)) | exact (lq_ls (by assumption)).2 | (have h9:=lq_len (by assumption:LQ lines); omega) | (simp only [put_len] at *; omega) | (have h0:0≤(bif (!((lines.length:Int)==0)) then (F48 ⟨r1.b,r1.p⟩ 5).2 else r1.p)∧(bif (!((lines.length:Int)==0)) then (F48 ⟨r1.b,r1.p⟩ 5).2 else r1.p)≤r1.p+1:=(by (cases ((lines.length:Int)==0) <;> simp only [Bool.not_true,Bool.not_false,cond_true,cond_false] <;> omega)); omega))) (fun (i0:Nat×(List ByteArray×Int×Int)) (hi0:lJ49_0 r1 lines i0)=>(fun (m0:Nat) (out:List ByteArray) (i40:Int) (r2:Int) (hh0:lH49_0 r1 lines i0 m0 out i40 r2)=>have hI0:=hh0.1; have hl0:=hh0.2.1; have _:=hh0.2.2.1; have _:=hh0.2.2.2.1; have _:=hh0.2.2.2.2.1; have _:=hh0.2.2.2.2.2.1; have _:=hh0.2.2.2.2.2.2.1; have _:=hh0.2.2.2.2.2.2.2.1; have _:=hh0.2.2.2.2.2.2.2.2; kc48l r1X r1.b r2 2 (by omega) (by omega) (by omega) (by omega) (by omega) (fun gv10=>have gv11:(F48 ⟨r1.b,r2⟩ 2).1<(2:Int):=(by exact pick_lt _ _ _ (by omega) (by omega) (by omega)); ai (iok (16+(F48 ⟨r1.b,r2⟩ 2).1) (by omega)) (ifd (i40<(16+(F48 ⟨r1.b,r2⟩ 2).1)) (fun h12 _=>ai (bokr 1 eStr ([w59_,w79_,w80_,w81_,w82_,w83_,w84_,w85_,w86_,w87_,w88_,w89_,w63_,w90_,w91_,w92_,w93_]:List ByteArray) fun _=>rfl) (ai (by (simp only [lens,ib] at*<;> omega):ib i40 ([w59_,w79_,w80_,w81_,w82_,w83_,w84_,w85_,w86_,w87_,w88_,w89_,w63_,w90_,w91_,w92_,w93_]:List ByteArray)) (ai (by exact sumLe (lit_le _) (getD_sz (n:=2) (by decide) _) (by decide):((w94_.size+(([w59_,w79_,w80_,w81_,w82_,w83_,w84_,w85_,w86_,w87_,w88_,w89_,w63_,w90_,w91_,w92_,w93_]:List ByteArray).getD (Int.toNat i40) default).size:Nat):Int)≤9223372036854775807) (ai (by exact sumLe (app_le (lit_le _) (getD_sz (n:=2) (by decide) _)) (lit_le _) (by decide):(((w94_++(([w59_,w79_,w80_,w81_,w82_,w83_,w84_,w85_,w86_,w87_,w88_,w89_,w63_,w90_,w91_,w92_,w93_]:List ByteArray).getD (Int.toNat i40) default)).size+w95_.size:Nat):Int)≤9223372036854775807) (kc79 out ((w94_++(([w59_,w79_,w80_,w81_,w82_,w83_,w84_,w85_,w86_,w87_,w88_,w89_,w63_,w90_,w91_,w92_,w93_]:List ByteArray).getD (Int.toNat i40) default))++w95_) (by omega) (by exact fun q=>Nat.le_trans ((by assumption:∀ q:Nat,(out.getD q default).size≤1000) q) (by decide)) (by exact fun q=>Nat.le_trans ((by assumption:∀ q:Nat,(out.getD q default).size≤1000) q) (by decide)) (by exact szLe (app_le (app_le (lit_le _) (getD_sz (n:=2) (by decide) _)) (lit_le _)) (by decide)) (fun gv13 gv14=>ai (iok (i40+1) (by omega)) (bk49_0 r1X r1 lines i0 m0 (F79 out ((w94_++(([w59_,w79_,w80_,w81_,w82_,w83_,w84_,w85_,w86_,w87_,w88_,w89_,w63_,w90_,w91_,w92_,w93_]:List ByteArray).getD (Int.toNat i40) default))++w95_)) (i40+1) (F48 ⟨r1.b,r2⟩ 2).2 hl0 (runL_next hI0 (condT h12 rfl)) (by refine ⟨?_,?_,?_,?_,?_,?_,?_⟩ <;> first | omega | (simp only [lens,ib] at*<;> omega) | exact put_szN (by assumption) (szLe (app_le (app_le (lit_le _) (getD_sz (n:=2) (by decide) _)) (lit_le _)) (by decide)) | exact (lq_ls (by assumption)).2 | (have h9:=lq_len (by assumption:LQ lines); omega) | (simp only [put_len] at *; omega) | (have h0:0≤(bif (!((lines.length:Int)==0)) then (F48 ⟨r1.b,r1.p⟩ 5).2 else r1.p)∧(bif (!((lines.length:Int)==0)) then (F48 ⟨r1.b,r1.p⟩ 5).2 else r1.p)≤r1.p+1:=(by (cases ((lines.length:Int)==0) <;> simp only [Bool.not_true,Bool.not_false,cond_true,cond_false] <;> omega)); omega))))))))) (fun h12 _=>have hD0_15:lX49_0 r1 lines=Lp.done (out,i40,(F48 ⟨r1.b,r2⟩ 2).2):=runL_done hI0 (condF h12 rfl); (fun hF:(out,(F48 ⟨r1.b,r2⟩ 2).2)=(F49 r1 lines)=>ai (Imp.of_eq (congrArg (fun r:List ByteArray×Int=>Dat.l 1 eStr r.1) hF)) (ai (ai (Imp.refl (Dat.v (sv r1X))) (ai (Imp.of_eq (congrArg (fun r:List ByteArray×Int=>Dat.v (vI r.2)) hF)) trivial)) trivial)) (condT h8 (finD hD0_15 rfl)))))) (i0.1-1) i0.2.1 i0.2.2.1 i0.2.2.2 (un49_0 r1 lines i0 hi0))) (fun h8=>have _:=beqF (orF1 h8); have _:=beqF (orF2 h8); kc48l r1X r1.b (bif (!((lines.length:Int)==0)) then (F48 ⟨r1.b,r1.p⟩ 5).2 else r1.p) (lines.length:Int) (by (have h0:0≤(bif (!((lines.length:Int)==0)) then (F48 ⟨r1.b,r1.p⟩ 5).2 else r1.p)∧(bif (!((lines.length:Int)==0)) then (F48 ⟨r1.b,r1.p⟩ 5).2 else r1.p)≤r1.p+1:=(by (cases ((lines.length:Int)==0) <;> simp only [Bool.not_true,Bool.not_false,cond_true,cond_false] <;> omega)); omega)) (by (have h0:0≤(bif (!((lines.length:Int)==0)) then (F48 ⟨r1.b,r1.p⟩ 5).2 else r1.p)∧(bif (!((lines.length:Int)==0)) then (F48 ⟨r1.b,r1.p⟩ 5).2 else r1.p)≤r1.p+1:=(by (cases ((lines.length:Int)==0) <;> simp only [Bool.not_true,Bool.not_false,cond_true,cond_false] <;> omega)); omega)) (by omega) (by (have h0:0≤(bif (!((lines.length:Int)==0)) then (F48 ⟨r1.b,r1.p⟩ 5).2 else r1.p)∧(bif (!((lines.length:Int)==0)) then (F48 ⟨r1.b,r1.p⟩ 5).2 else r1.p)≤r1.p+1:=(by (cases ((lines.length:Int)==0) <;> simp only [Bool.not_true,Bool.not_false,cond_true,cond_false] <;> omega)); omega)) (by (have h0:0≤(bif (!((lines.length:Int)==0)) then (F48 ⟨r1.b,r1.p⟩ 5).2 else r1.p)∧(bif (!((lines.length:Int)==0)) then (F48 ⟨r1.b,r1.p⟩ 5).2 else r1.p)≤r1.p+1:=(by (cases ((lines.length:Int)==0) <;> simp only [Bool.not_true,Bool.not_false,cond_true,cond_false] <;> omega)); omega)) (fun gv16=>have gv17:(F48 ⟨r1.b,(bif (!((lines.length:Int)==0)) then (F48 ⟨r1.b,r1.p⟩ 5).2 else r1.p)⟩ (lines.length:Int)).1<(lines.length:Int):=(by exact pick_lt _ _ _ (by (cases hq:((lines.length:Int)==0) <;> simp only [hq,Bool.not_true,Bool.not_false,cond_true,cond_false] at*<;> omega)) (by (cases hq:((lines.length:Int)==0) <;> simp only [hq,Bool.not_true,Bool.not_false,cond_true,cond_false] at*<;> omega)) (by omega)); kc48l r1X r1.b (F48 ⟨r1.b,(bif (!((lines.length:Int)==0)) then (F48 ⟨r1.b,r1.p⟩ 5).2 else r1.p)⟩ (lines.length:Int)).2 4 (by (have h0:0≤(bif (!((lines.length:Int)==0)) then (F48 ⟨r1.b,r1.p⟩ 5).2 else r1.p)∧(bif (!((lines.length:Int)==0)) then (F48 ⟨r1.b,r1.p⟩ 5).2 else r1.p)≤r1.p+1:=(by (cases ((lines.length:Int)==0) <;> simp only [Bool.not_true,Bool.not_false,cond_true,cond_false] <;> omega)); omega)) (by (have h0:0≤(bif (!((lines.length:Int)==0)) then (F48 ⟨r1.b,r1.p⟩ 5).2 else r1.p)∧(bif (!((lines.length:Int)==0)) then (F48 ⟨r1.b,r1.p⟩ 5).2 else r1.p)≤r1.p+1:=(by (cases ((lines.length:Int)==0) <;> simp only [Bool.not_true,Bool.not_false,cond_true,cond_false] <;> omega)); omega)) (by omega) (by (have h0:0≤(bif (!((lines.length:Int)==0)) then (F48 ⟨r1.b,r1.p⟩ 5).2 else r1.p)∧(bif (!((lines.length:Int)==0)) then (F48 ⟨r1.b,r1.p⟩ 5).2 else r1.p)≤r1.p+1:=(by (cases ((lines.length:Int)==0) <;> simp only [Bool.not_true,Bool.not_false,cond_true,cond_false] <;> omega)); omega)) (by (have h0:0≤(bif (!((lines.length:Int)==0)) then (F48 ⟨r1.b,r1.p⟩ 5).2 else r1.p)∧(bif (!((lines.length:Int)==0)) then (F48 ⟨r1.b,r1.p⟩ 5).2 else r1.p)≤r1.p+1:=(by (cases ((lines.length:Int)==0) <;> simp only [Bool.not_true,Bool.not_false,cond_true,cond_false] <;> omega)); omega)) (fun gv18=>have gv19:(F48 ⟨r1.b,(F48 ⟨r1.b,(bif (!((lines.length:Int)==0)) then (F48 ⟨r1.b,r1.p⟩ 5).2 else r1.p)⟩ (lines.length:Int)).2⟩ 4).1<(4:Int):=(by exact pick_lt _ _ _ (by (cases hq:((lines.length:Int)==0) <;> simp only [hq,Bool.not_true,Bool.not_false,cond_true,cond_false] at*<;> omega)) (by (cases hq:((lines.length:Int)==0) <;> simp only [hq,Bool.not_true,Bool.not_false,cond_true,cond_false] at*<;> omega)) (by omega)); ife (F48 ⟨r1.b,(F48 ⟨r1.b,(bif (!((lines.length:Int)==0)) then (F48 ⟨r1.b,r1.p⟩ 5).2 else r1.p)⟩ (lines.length:Int)).2⟩ 4).1 0 (fun h20 _=>ai (by omega:ib (F48 ⟨r1.b,(bif (!((lines.length:Int)==0)) then (F48 ⟨r1.b,r1.p⟩ 5).2 else r1.p)⟩ (lines.length:Int)).1 lines) (ai (bokr 1 eStr ([w15_,w96_,w54_,w14_]:List ByteArray) fun _=>rfl) (kc67l r1X r1.b (F48 ⟨r1.b,(F48 ⟨r1.b,(bif (!((lines.length:Int)==0)) then (F48 ⟨r1.b,r1.p⟩ 5).2 else r1.p)⟩ (lines.length:Int)).2⟩ 4).2 ([w15_,w96_,w54_,w14_]:List ByteArray) (by (have h0:0≤(bif (!((lines.length:Int)==0)) then (F48 ⟨r1.b,r1.p⟩ 5).2 else r1.p)∧(bif (!((lines.length:Int)==0)) then (F48 ⟨r1.b,r1.p⟩ 5).2 else r1.p)≤r1.p+1:=(by (cases ((lines.length:Int)==0) <;> simp only [Bool.not_true,Bool.not_false,cond_true,cond_false] <;> omega)); omega)) (by (have h0:0≤(bif (!((lines.length:Int)==0)) then (F48 ⟨r1.b,r1.p⟩ 5).2 else r1.p)∧(bif (!((lines.length:Int)==0)) then (F48 ⟨r1.b,r1.p⟩ 5).2 else r1.p)≤r1.p+1:=(by (cases ((lines.length:Int)==0) <;> simp only [Bool.not_true,Bool.not_false,cond_true,cond_false] <;> omega)); omega)) (by omega) (by decide) (by decide) (by (have h0:0≤(bif (!((lines.length:Int)==0)) then (F48 ⟨r1.b,r1.p⟩ 5).2 else r1.p)∧(bif (!((lines.length:Int)==0)) then (F48 ⟨r1.b,r1.p⟩ 5).2 else r1.p)≤r1.p+1:=(by (cases ((lines.length:Int)==0) <;> simp only [Bool.not_true,Bool.not_false,cond_true,cond_false] <;> omega)); omega)) (by (have h0:0≤(bif (!((lines.length:Int)==0)) then (F48 ⟨r1.b,r1.p⟩ 5).2 else r1.p)∧(bif (!((lines.length:Int)==0)) then (F48 ⟨r1.b,r1.p⟩ 5).2 else r1.p)≤r1.p+1:=(by (cases ((lines.length:Int)==0) <;> simp only [Bool.not_true,Bool.not_false,cond_true,cond_false] <;> omega)); omega)) (by decide) (fun gv21=>ai (by exact sumLe ((by assumption:LQ lines).2 _) (of_le (n:=80) _ _ (by decide)) (by decide):(((lines.getD (Int.toNat (F48 ⟨r1.b,(bif (!((lines.length:Int)==0)) then (F48 ⟨r1.b,r1.p⟩ 5).2 else r1.p)⟩ (lines.length:Int)).1) default).size+(F67 ⟨r1.b,(F48 ⟨r1.b,(F48 ⟨r1.b,(bif (!((lines.length:Int)==0)) then (F48 ⟨r1.b,r1.p⟩ 5).2 else r1.p)⟩ (lines.length:Int)).2⟩ 4).2⟩ ([w15_,w96_,w54_,w14_]:List ByteArray)).1.size:Nat):Int)≤9223372036854775807) (ai (by omega:ib (F48 ⟨r1.b,(bif (!((lines.length:Int)==0)) then (F48 ⟨r1.b,r1.p⟩ 5).2 else r1.p)⟩ (lines.length:Int)).1 lines) (ai (setr 1 eStr lines (F48 ⟨r1.b,(bif (!((lines.length:Int)==0)) then (F48 ⟨r1.b,r1.p⟩ 5).2 else r1.p)⟩ (lines.length:Int)).1.toNat ((lines.getD (Int.toNat (F48 ⟨r1.b,(bif (!((lines.length:Int)==0)) then (F48 ⟨r1.b,r1.p⟩ 5).2 else r1.p)⟩ (lines.length:Int)).1) default)++(F67 ⟨r1.b,(F48 ⟨r1.b,(F48 ⟨r1.b,(bif (!((lines.length:Int)==0)) then (F48 ⟨r1.b,r1.p⟩ 5).2 else r1.p)⟩ (lines.length:Int)).2⟩ 4).2⟩ ([w15_,w96_,w54_,w14_]:List ByteArray)).1)) ((fun hF:((lines.set (F48 ⟨r1.b,(bif (!((lines.length:Int)==0)) then (F48 ⟨r1.b,r1.p⟩ 5).2 else r1.p)⟩ (lines.length:Int)).1.toNat ((lines.getD (Int.toNat (F48 ⟨r1.b,(bif (!((lines.length:Int)==0)) then (F48 ⟨r1.b,r1.p⟩ 5).2 else r1.p)⟩ (lines.length:Int)).1) default)++(F67 ⟨r1.b,(F48 ⟨r1.b,(F48 ⟨r1.b,(bif (!((lines.length:Int)==0)) then (F48 ⟨r1.b,r1.p⟩ 5).2 else r1.p)⟩ (lines.length:Int)).2⟩ 4).2⟩ ([w15_,w96_,w54_,w14_]:List ByteArray)).1)),(F67 ⟨r1.b,(F48 ⟨r1.b,(F48 ⟨r1.b,(bif (!((lines.length:Int)==0)) then (F48 ⟨r1.b,r1.p⟩ 5).2 else r1.p)⟩ (lines.length:Int)).2⟩ 4).2⟩ ([w15_,w96_,w54_,w14_]:List ByteArray)).2)=(F49 r1 lines)=>ai (Imp.of_eq (congrArg (fun r:List ByteArray×Int=>Dat.l 1 eStr r.1) hF)) (ai (ai (Imp.refl (Dat.v (sv r1X))) (ai (Imp.of_eq (congrArg (fun r:List ByteArray×Int=>Dat.v (vI r.2)) hF)) trivial)) trivial)) (condF h8 (condT h20 rfl))))))))) (fun h20 _=>ife (F48 ⟨r1.b,(F48 ⟨r1.b,(bif (!((lines.length:Int)==0)) then (F48 ⟨r1.b,r1.p⟩ 5).2 else r1.p)⟩ (lines.length:Int)).2⟩ 4).1 1 (fun h22 _=>ai (by omega:ib (F48 ⟨r1.b,(bif (!((lines.length:Int)==0)) then (F48 ⟨r1.b,r1.p⟩ 5).2 else r1.p)⟩ (lines.length:Int)).1 lines) (ai (appr 1 eStr lines [(lines.getD (Int.toNat (F48 ⟨r1.b,(bif (!((lines.length:Int)==0)) then (F48 ⟨r1.b,r1.p⟩ 5).2 else r1.p)⟩ (lines.length:Int)).1) default)] fun _=>rfl) (ai (by have h9:=lq_len hpre3; (try simp only [lens]); omega:(lines++[(lines.getD (Int.toNat (F48 ⟨r1.b,(bif (!((lines.length:Int)==0)) then (F48 ⟨r1.b,r1.p⟩ 5).2 else r1.p)⟩ (lines.length:Int)).1) default)]).length*16≤140737488355328) ((fun hF:((lines++[(lines.getD (Int.toNat (F48 ⟨r1.b,(bif (!((lines.length:Int)==0)) then (F48 ⟨r1.b,r1.p⟩ 5).2 else r1.p)⟩ (lines.length:Int)).1) default)]),(F48 ⟨r1.b,(F48 ⟨r1.b,(bif (!((lines.length:Int)==0)) then (F48 ⟨r1.b,r1.p⟩ 5).2 else r1.p)⟩ (lines.length:Int)).2⟩ 4).2)=(F49 r1 lines)=>ai (Imp.of_eq (congrArg (fun r:List ByteArray×Int=>Dat.l 1 eStr r.1) hF)) (ai (ai (Imp.refl (Dat.v (sv r1X))) (ai (Imp.of_eq (congrArg (fun r:List ByteArray×Int=>Dat.v (vI r.2)) hF)) trivial)) trivial)) (condF h8 (condF h20 (condT h22 rfl))))))) (fun h22 _=>ife (F48 ⟨r1.b,(F48 ⟨r1.b,(bif (!((lines.length:Int)==0)) then (F48 ⟨r1.b,r1.p⟩ 5).2 else r1.p)⟩ (lines.length:Int)).2⟩ 4).1 2 (fun h23 _=>ai (bokr 1 eStr ([w13_,w4_,w97_,w98_,w99_,w100_,w101_,w102_,w103_,w104_,w105_,w106_,w107_,w108_,w109_,w110_,w111_,w112_,w113_,w114_,w115_,w116_,w117_]:List ByteArray) fun _=>rfl) (kc67l r1X r1.b (F48 ⟨r1.b,(F48 ⟨r1.b,(bif (!((lines.length:Int)==0)) then (F48 ⟨r1.b,r1.p⟩ 5).2 else r1.p)⟩ (lines.length:Int)).2⟩ 4).2 ([w13_,w4_,w97_,w98_,w99_,w100_,w101_,w102_,w103_,w104_,w105_,w106_,w107_,w108_,w109_,w110_,w111_,w112_,w113_,w114_,w115_,w116_,w117_]:List ByteArray) (by (have h0:0≤(bif (!((lines.length:Int)==0)) then (F48 ⟨r1.b,r1.p⟩ 5).2 else r1.p)∧(bif (!((lines.length:Int)==0)) then (F48 ⟨r1.b,r1.p⟩ 5).2 else r1.p)≤r1.p+1:=(by (cases ((lines.length:Int)==0) <;> simp only [Bool.not_true,Bool.not_false,cond_true,cond_false] <;> omega)); omega)) (by (have h0:0≤(bif (!((lines.length:Int)==0)) then (F48 ⟨r1.b,r1.p⟩ 5).2 else r1.p)∧(bif (!((lines.length:Int)==0)) then (F48 ⟨r1.b,r1.p⟩ 5).2 else r1.p)≤r1.p+1:=(by (cases ((lines.length:Int)==0) <;> simp only [Bool.not_true,Bool.not_false,cond_true,cond_false] <;> omega)); omega)) (by omega) (by decide) (by decide) (by (have h0:0≤(bif (!((lines.length:Int)==0)) then (F48 ⟨r1.b,r1.p⟩ 5).2 else r1.p)∧(bif (!((lines.length:Int)==0)) then (F48 ⟨r1.b,r1.p⟩ 5).2 else r1.p)≤r1.p+1:=(by (cases ((lines.length:Int)==0) <;> simp only [Bool.not_true,Bool.not_false,cond_true,cond_false] <;> omega)); omega)) (by (have h0:0≤(bif (!((lines.length:Int)==0)) then (F48 ⟨r1.b,r1.p⟩ 5).2 else r1.p)∧(bif (!((lines.length:Int)==0)) then (F48 ⟨r1.b,r1.p⟩ 5).2 else r1.p)≤r1.p+1:=(by (cases ((lines.length:Int)==0) <;> simp only [Bool.not_true,Bool.not_false,cond_true,cond_false] <;> omega)); omega)) (by decide) (fun gv24=>ai (by omega:ib (F48 ⟨r1.b,(bif (!((lines.length:Int)==0)) then (F48 ⟨r1.b,r1.p⟩ 5).2 else r1.p)⟩ (lines.length:Int)).1 lines) (ai (setr 1 eStr lines (F48 ⟨r1.b,(bif (!((lines.length:Int)==0)) then (F48 ⟨r1.b,r1.p⟩ 5).2 else r1.p)⟩ (lines.length:Int)).1.toNat (F67 ⟨r1.b,(F48 ⟨r1.b,(F48 ⟨r1.b,(bif (!((lines.length:Int)==0)) then (F48 ⟨r1.b,r1.p⟩ 5).2 else r1.p)⟩ (lines.length:Int)).2⟩ 4).2⟩ ([w13_,w4_,w97_,w98_,w99_,w100_,w101_,w102_,w103_,w104_,w105_,w106_,w107_,w108_,w109_,w110_,w111_,w112_,w113_,w114_,w115_,w116_,w117_]:List ByteArray)).1) ((fun hF:((lines.set (F48 ⟨r1.b,(bif (!((lines.length:Int)==0)) then (F48 ⟨r1.b,r1.p⟩ 5).2 else r1.p)⟩ (lines.length:Int)).1.toNat (F67 ⟨r1.b,(F48 ⟨r1.b,(F48 ⟨r1.b,(bif (!((lines.length:Int)==0)) then (F48 ⟨r1.b,r1.p⟩ 5).2 else r1.p)⟩ (lines.length:Int)).2⟩ 4).2⟩ ([w13_,w4_,w97_,w98_,w99_,w100_,w101_,w102_,w103_,w104_,w105_,w106_,w107_,w108_,w109_,w110_,w111_,w112_,w113_,w114_,w115_,w116_,w117_]:List ByteArray)).1),(F67 ⟨r1.b,(F48 ⟨r1.b,(F48 ⟨r1.b,(bif (!((lines.length:Int)==0)) then (F48 ⟨r1.b,r1.p⟩ 5).2 else r1.p)⟩ (lines.length:Int)).2⟩ 4).2⟩ ([w13_,w4_,w97_,w98_,w99_,w100_,w101_,w102_,w103_,w104_,w105_,w106_,w107_,w108_,w109_,w110_,w111_,w112_,w113_,w114_,w115_,w116_,w117_]:List ByteArray)).2)=(F49 r1 lines)=>ai (Imp.of_eq (congrArg (fun r:List ByteArray×Int=>Dat.l 1 eStr r.1) hF)) (ai (ai (Imp.refl (Dat.v (sv r1X))) (ai (Imp.of_eq (congrArg (fun r:List ByteArray×Int=>Dat.v (vI r.2)) hF)) trivial)) trivial)) (condF h8 (condF h20 (condF h22 (condT h23 rfl))))))))) (fun h23 _=>ai (ai (by omega:0≤(F48 ⟨r1.b,(bif (!((lines.length:Int)==0)) then (F48 ⟨r1.b,r1.p⟩ 5).2 else r1.p)⟩ (lines.length:Int)).1) (ai (by omega:(F48 ⟨r1.b,(bif (!((lines.length:Int)==0)) then (F48 ⟨r1.b,r1.p⟩ 5).2 else r1.p)⟩ (lines.length:Int)).1<(lines.length:Int)) (by (have h9:=lq_len (by assumption:LQ lines); omega):lines.length≤1048576))) (ai (Imp.refl (.l 1 eStr lines)) (ai (Imp.refl (.v (vI (F48 ⟨r1.b,(bif (!((lines.length:Int)==0)) then (F48 ⟨r1.b,r1.p⟩ 5).2 else r1.p)⟩ (lines.length:Int)).1))) (have gv25:(F68 lines (F48 ⟨r1.b,(bif (!((lines.length:Int)==0)) then (F48 ⟨r1.b,r1.p⟩ 5).2 else r1.p)⟩ (lines.length:Int)).1).length+1=lines.length:=without_len lines (F48 ⟨r1.b,(bif (!((lines.length:Int)==0)) then (F48 ⟨r1.b,r1.p⟩ 5).2 else r1.p)⟩ (lines.length:Int)).1 (by omega:0≤(F48 ⟨r1.b,(bif (!((lines.length:Int)==0)) then (F48 ⟨r1.b,r1.p⟩ 5).2 else r1.p)⟩ (lines.length:Int)).1) (by omega:(F48 ⟨r1.b,(bif (!((lines.length:Int)==0)) then (F48 ⟨r1.b,r1.p⟩ 5).2 else r1.p)⟩ (lines.length:Int)).1<(lines.length:Int)) (by (have h9:=lq_len (by assumption:LQ lines); omega):lines.length≤1048576); have gv26:∀ q:Nat,((F68 lines (F48 ⟨r1.b,(bif (!((lines.length:Int)==0)) then (F48 ⟨r1.b,r1.p⟩ 5).2 else r1.p)⟩ (lines.length:Int)).1).getD q default).size≤1048576:=without_sz lines (F48 ⟨r1.b,(bif (!((lines.length:Int)==0)) then (F48 ⟨r1.b,r1.p⟩ 5).2 else r1.p)⟩ (lines.length:Int)).1 (by exact lq_sz (by assumption):∀ q:Nat,(lines.getD q default).size≤1048576); kc86l r1X r1.b (F48 ⟨r1.b,(F48 ⟨r1.b,(bif (!((lines.length:Int)==0)) then (F48 ⟨r1.b,r1.p⟩ 5).2 else r1.p)⟩ (lines.length:Int)).2⟩ 4).2 (by (have h0:0≤(bif (!((lines.length:Int)==0)) then (F48 ⟨r1.b,r1.p⟩ 5).2 else r1.p)∧(bif (!((lines.length:Int)==0)) then (F48 ⟨r1.b,r1.p⟩ 5).2 else r1.p)≤r1.p+1:=(by (cases ((lines.length:Int)==0) <;> simp only [Bool.not_true,Bool.not_false,cond_true,cond_false] <;> omega)); omega)) (by (have h0:0≤(bif (!((lines.length:Int)==0)) then (F48 ⟨r1.b,r1.p⟩ 5).2 else r1.p)∧(bif (!((lines.length:Int)==0)) then (F48 ⟨r1.b,r1.p⟩ 5).2 else r1.p)≤r1.p+1:=(by (cases ((lines.length:Int)==0) <;> simp only [Bool.not_true,Bool.not_false,cond_true,cond_false] <;> omega)); omega)) (by omega) (by (have h0:0≤(bif (!((lines.length:Int)==0)) then (F48 ⟨r1.b,r1.p⟩ 5).2 else r1.p)∧(bif (!((lines.length:Int)==0)) then (F48 ⟨r1.b,r1.p⟩ 5).2 else r1.p)≤r1.p+1:=(by (cases ((lines.length:Int)==0) <;> simp only [Bool.not_true,Bool.not_false,cond_true,cond_false] <;> omega)); omega)) (by (have h0:0≤(bif (!((lines.length:Int)==0)) then (F48 ⟨r1.b,r1.p⟩ 5).2 else r1.p)∧(bif (!((lines.length:Int)==0)) then (F48 ⟨r1.b,r1.p⟩ 5).2 else r1.p)≤r1.p+1:=(by (cases ((lines.length:Int)==0) <;> simp only [Bool.not_true,Bool.not_false,cond_true,cond_false] <;> omega)); omega)) (fun gv27=>ai (ai (by (have h9:=lq_len (by assumption:LQ lines); omega):(F68 lines (F48 ⟨r1.b,(bif (!((lines.length:Int)==0)) then (F48 ⟨r1.b,r1.p⟩ 5).2 else r1.p)⟩ (lines.length:Int)).1).length≤1048576) (by omega:∀ k:Nat,((F68 lines (F48 ⟨r1.b,(bif (!((lines.length:Int)==0)) then (F48 ⟨r1.b,r1.p⟩ 5).2 else r1.p)⟩ (lines.length:Int)).1).getD k default).size≤1048576)) (ai (Imp.refl (.l 1 eStr (F68 lines (F48 ⟨r1.b,(bif (!((lines.length:Int)==0)) then (F48 ⟨r1.b,r1.p⟩ 5).2 else r1.p)⟩ (lines.length:Int)).1))) (ai (Imp.refl (.v (.string (F86 ⟨r1.b,(F48 ⟨r1.b,(F48 ⟨r1.b,(bif (!((lines.length:Int)==0)) then (F48 ⟨r1.b,r1.p⟩ 5).2 else r1.p)⟩ (lines.length:Int)).2⟩ 4).2⟩).1))) (have gv28:(F79 (F68 lines (F48 ⟨r1.b,(bif (!((lines.length:Int)==0)) then (F48 ⟨r1.b,r1.p⟩ 5).2 else r1.p)⟩ (lines.length:Int)).1) (F86 ⟨r1.b,(F48 ⟨r1.b,(F48 ⟨r1.b,(bif (!((lines.length:Int)==0)) then (F48 ⟨r1.b,r1.p⟩ 5).2 else r1.p)⟩ (lines.length:Int)).2⟩ 4).2⟩).1).length=(F68 lines (F48 ⟨r1.b,(bif (!((lines.length:Int)==0)) then (F48 ⟨r1.b,r1.p⟩ 5).2 else r1.p)⟩ (lines.length:Int)).1).length+1:=put_len (F68 lines (F48 ⟨r1.b,(bif (!((lines.length:Int)==0)) then (F48 ⟨r1.b,r1.p⟩ 5).2 else r1.p)⟩ (lines.length:Int)).1) (F86 ⟨r1.b,(F48 ⟨r1.b,(F48 ⟨r1.b,(bif (!((lines.length:Int)==0)) then (F48 ⟨r1.b,r1.p⟩ 5).2 else r1.p)⟩ (lines.length:Int)).2⟩ 4).2⟩).1; have gv29:∀ k:Nat,((F79 (F68 lines (F48 ⟨r1.b,(bif (!((lines.length:Int)==0)) then (F48 ⟨r1.b,r1.p⟩ 5).2 else r1.p)⟩ (lines.length:Int)).1) (F86 ⟨r1.b,(F48 ⟨r1.b,(F48 ⟨r1.b,(bif (!((lines.length:Int)==0)) then (F48 ⟨r1.b,r1.p⟩ 5).2 else r1.p)⟩ (lines.length:Int)).2⟩ 4).2⟩).1).getD k default).size≤1048576:=put_sz (F68 lines (F48 ⟨r1.b,(bif (!((lines.length:Int)==0)) then (F48 ⟨r1.b,r1.p⟩ 5).2 else r1.p)⟩ (lines.length:Int)).1) (F86 ⟨r1.b,(F48 ⟨r1.b,(F48 ⟨r1.b,(bif (!((lines.length:Int)==0)) then (F48 ⟨r1.b,r1.p⟩ 5).2 else r1.p)⟩ (lines.length:Int)).2⟩ 4).2⟩).1 (by omega:∀ k:Nat,((F68 lines (F48 ⟨r1.b,(bif (!((lines.length:Int)==0)) then (F48 ⟨r1.b,r1.p⟩ 5).2 else r1.p)⟩ (lines.length:Int)).1).getD k default).size≤1048576) (by omega:(F86 ⟨r1.b,(F48 ⟨r1.b,(F48 ⟨r1.b,(bif (!((lines.length:Int)==0)) then (F48 ⟨r1.b,r1.p⟩ 5).2 else r1.p)⟩ (lines.length:Int)).2⟩ 4).2⟩).1.size≤1048576); (fun hF:((F79 (F68 lines (F48 ⟨r1.b,(bif (!((lines.length:Int)==0)) then (F48 ⟨r1.b,r1.p⟩ 5).2 else r1.p)⟩ (lines.length:Int)).1) (F86 ⟨r1.b,(F48 ⟨r1.b,(F48 ⟨r1.b,(bif (!((lines.length:Int)==0)) then (F48 ⟨r1.b,r1.p⟩ 5).2 else r1.p)⟩ (lines.length:Int)).2⟩ 4).2⟩).1),(F86 ⟨r1.b,(F48 ⟨r1.b,(F48 ⟨r1.b,(bif (!((lines.length:Int)==0)) then (F48 ⟨r1.b,r1.p⟩ 5).2 else r1.p)⟩ (lines.length:Int)).2⟩ 4).2⟩).2)=(F49 r1 lines)=>ai (Imp.of_eq (congrArg (fun r:List ByteArray×Int=>Dat.l 1 eStr r.1) hF)) (ai (ai (Imp.refl (Dat.v (sv r1X))) (ai (Imp.of_eq (congrArg (fun r:List ByteArray×Int=>Dat.v (vI r.2)) hF)) trivial)) trivial)) (condF h8 (condF h20 (condF h22 (condF h23 rfl)))))))))))))))))))))))) (by kernel_rfl)
theorem set_szN {xs:List ByteArray} {n k:Nat} {v:ByteArray} (h:∀ q:Nat,(xs.getD q default).size≤n) (hv:v.size≤n):∀ q:Nat,((xs.set k v).getD q default).size≤n:=getD_sz fun x hx=>by
 rcases List.mem_or_eq_of_mem_set hx with hx | rfl
 ·exact mem_sz h hx
 ·exact hv
theorem app_szN {xs:List ByteArray} {n:Nat} {v:ByteArray} (h:∀ q:Nat,(xs.getD q default).size≤n) (hv:v.size≤n):∀ q:Nat,((xs++[v]).getD q default).size≤n:=getD_sz fun x hx=>by
 rcases List.mem_append.1 hx with hx | hx
 ·exact mem_sz h hx
 ·rw [List.mem_singleton.1 hx]; exact hv
theorem spoil_loop (r1:l51Rd) (lines:List ByteArray):∀ (m i:Nat) (out:List ByteArray) (r:Int),i+m=17→out.length≤17+i→(∀ q:Nat,(out.getD q default).size≤1000)→0≤r→r+m≤900000000→∀ M,m<M →
  ∃ ys i' r',runL (F49_s0 r1 lines) M (out,(i:Int),r)=.done (ys,i',r')∧ys.length≤34∧(∀ q:Nat,(ys.getD q default).size≤1000)∧r≤r'∧r'≤r+m+1
 | _,_,_,_,_,_,_,_,_,0,hM=>absurd hM (Nat.not_lt_zero _)
 | m,i,out,r,hi,hl,hz,h0,hB,M+1,hM=>by
  obtain ⟨k1,k2,k3⟩:=pick_in (⟨r1.b,r⟩:l51Rd) 2 h0 (by show r≤_; omega)
  have k2:=k2 (by decide)
  by_cases hc:(i:Int)<(16+((F48 (⟨r1.b,r⟩:l51Rd) 2).1))
  ·obtain ⟨m,rfl⟩:∃ m',m=m'+1:=⟨m-1,by omega⟩
   have e:F49_s0 r1 lines (out,(i:Int),r)=.next (F79 out (((⟨#[114,117,108,101,32,122,32]⟩:ByteArray)++(([(⟨#[49,48]⟩:ByteArray),(⟨#[49,49]⟩:ByteArray),(⟨#[49,50]⟩:ByteArray),(⟨#[49,51]⟩:ByteArray),(⟨#[49,52]⟩:ByteArray),(⟨#[49,53]⟩:ByteArray),(⟨#[49,54]⟩:ByteArray),(⟨#[49,55]⟩:ByteArray),(⟨#[49,56]⟩:ByteArray),(⟨#[49,57]⟩:ByteArray),(⟨#[50,48]⟩:ByteArray),(⟨#[50,49]⟩:ByteArray),(⟨#[50,50]⟩:ByteArray),(⟨#[50,51]⟩:ByteArray),(⟨#[50,52]⟩:ByteArray),(⟨#[50,53]⟩:ByteArray),(⟨#[50,54]⟩:ByteArray)]:List ByteArray).getD (Int.toNat (i:Int)) default))++(⟨#[32,100,101,110,121,32,48,46,48,47,48,32,48,46,48,47,48,32,48]⟩:ByteArray)),((i+1:Nat):Int),(F48 (⟨r1.b,r⟩:l51Rd) 2).2):=by
    simp only [F49_s0]
    rw [decide_eq_true hc]; rfl
   obtain ⟨ys,i',r',e1,q1,q2,q3,q4⟩:=spoil_loop r1 lines m (i+1) (F79 out (((⟨#[114,117,108,101,32,122,32]⟩:ByteArray)++(([(⟨#[49,48]⟩:ByteArray),(⟨#[49,49]⟩:ByteArray),(⟨#[49,50]⟩:ByteArray),(⟨#[49,51]⟩:ByteArray),(⟨#[49,52]⟩:ByteArray),(⟨#[49,53]⟩:ByteArray),(⟨#[49,54]⟩:ByteArray),(⟨#[49,55]⟩:ByteArray),(⟨#[49,56]⟩:ByteArray),(⟨#[49,57]⟩:ByteArray),(⟨#[50,48]⟩:ByteArray),(⟨#[50,49]⟩:ByteArray),(⟨#[50,50]⟩:ByteArray),(⟨#[50,51]⟩:ByteArray),(⟨#[50,52]⟩:ByteArray),(⟨#[50,53]⟩:ByteArray),(⟨#[50,54]⟩:ByteArray)]:List ByteArray).getD (Int.toNat (i:Int)) default))++(⟨#[32,100,101,110,121,32,48,46,48,47,48,32,48,46,48,47,48,32,48]⟩:ByteArray))) (F48 (⟨r1.b,r⟩:l51Rd) 2).2 (by omega) (by rw [put_len]; omega) (put_szN hz (szLe (app_le (app_le (lit_le _) (getD_sz (n:=2) (by decide) _)) (lit_le _)) (by decide))) (by simp only [pick_p]; omega) (by simp only [pick_p]; omega) M (by omega)
   simp only [pick_p] at q3 q4
   refine ⟨ys,i',r',?_,q1,q2,by omega,by omega⟩
   rw [runL_n _ e]
   exact e1
  ·have e:F49_s0 r1 lines (out,(i:Int),r)=.done (out,(i:Int),(F48 (⟨r1.b,r⟩:l51Rd) 2).2):=by
    simp only [F49_s0]
    rw [decide_eq_false hc]; rfl
   refine ⟨out,i,_,runL_d _ e,by omega,hz,?_,?_⟩ <;> (simp only [pick_p]; omega)
theorem spoil_q (r1:l51Rd) (lines:List ByteArray) (h0:0≤r1.p) (h1:r1.p≤800000000) (h:LQ lines):LS (F49 r1 lines).1∧0≤(F49 r1 lines).2∧(F49 r1 lines).2≤r1.p+60:=by
 have h9:∀ q:Nat,(lines.getD q default).size≤1000:=(lq_ls h).2
 have hl:=h.1
 unfold F49
 have hp:r1.p≤(bif (!((lines.length:Int)==0)) then ((F48 (⟨r1.b,r1.p⟩:l51Rd) 5).2) else r1.p)∧(bif (!((lines.length:Int)==0)) then ((F48 (⟨r1.b,r1.p⟩:l51Rd) 5).2) else r1.p)≤r1.p+1:=by
  cases ((lines.length:Int)==0)
  ·simp only [Bool.not_false,cond_true,pick_p]; omega
  ·simp only [Bool.not_true,cond_false]; omega
 generalize (bif (!((lines.length:Int)==0)) then ((F48 (⟨r1.b,r1.p⟩:l51Rd) 5).2) else r1.p)=p0 at hp ⊢
 cases hc:(bif ((lines.length:Int)==0) then true else ((F48 (⟨r1.b,r1.p⟩:l51Rd) 5).1==0)) with
 | true =>
  rw [cond_true]
  obtain ⟨ys,i',r',e1,q1,q2,q3,q4⟩:=spoil_loop r1 lines 17 0 lines p0 (by omega) (by omega) h9 (by omega) (by omega) (Int.toNat (17-0)+1) (by decide)
  rw [show (lines,(0:Int),p0)=(lines,((0:Nat):Int),p0) from rfl,e1]
  refine ⟨⟨by show ys.length≤40; omega,q2⟩,?_,?_⟩ <;> (simp only [Lp.fin,pick_p]; omega)
 | false =>
  have hne:¬ (lines.length:Int)=0:=fun e=>by
   rw [show ((lines.length:Int)==0)=true from beq_iff_eq.2 e,cond_true] at hc; cases hc
  rw [cond_false]
  obtain ⟨k1,k2,k3⟩:=pick_in (⟨r1.b,p0⟩:l51Rd) (lines.length:Int) (by show 0≤p0; omega) (by show p0≤_; omega)
  have k2:=k2 (by omega)
  obtain ⟨z1,z2,z3⟩:=dline_all (⟨r1.b,(F48 (⟨r1.b,(F48 (⟨r1.b,p0⟩:l51Rd) (lines.length:Int)).2⟩:l51Rd) 4).2⟩:l51Rd)
  simp only [pick_p] at z2 z3
  have hw:=without_len lines _ k1 k2 (by omega)
  apply cond_P (P:=fun z:List ByteArray×Int=>LS z.1∧0≤z.2∧z.2≤r1.p+60)
  ·refine ⟨⟨by rw [List.length_set]; omega,set_szN h9 (szLe (app_le (h.2 _) (of_le (n:=80) _ _ (by decide))) (by decide))⟩,?_,?_⟩ <;> (simp only [of_p,pick_p]; omega)
  apply cond_P (P:=fun z:List ByteArray×Int=>LS z.1∧0≤z.2∧z.2≤r1.p+60)
  ·refine ⟨⟨by rw [List.length_append]; simp only [List.length_cons,List.length_nil]; omega,app_szN h9 (h9 _)⟩,?_,?_⟩ <;> (simp only [pick_p]; omega)
  apply cond_P (P:=fun z:List ByteArray×Int=>LS z.1∧0≤z.2∧z.2≤r1.p+60)
  ·refine ⟨⟨by rw [List.length_set]; omega,set_szN h9 (szLe (of_le (n:=80) _ _ (by decide)) (by decide))⟩,?_,?_⟩ <;> (simp only [of_p,pick_p]; omega)
  ·refine ⟨⟨by rw [put_len]; omega,put_szN (without_szN _ h9) (Nat.le_trans z1 (by decide))⟩,?_,?_⟩ <;> (simp only [pick_p] at z2 z3 ⊢; omega)
theorem kc72l (X_:SV) (b_:List Int) (pp_:Int) (lines:List ByteArray) {K_:Prop} (p0_:0≤pp_) (p1_:pp_≤800000000) (p2_:b_.length≤2000) (p3_:LQ lines) (q0_:0≤pp_) (q1_:pp_≤800000000) (q2_:LQ lines) (k_:(LQ (F72 ⟨b_,pp_⟩ lines).1∧0≤(F72 ⟨b_,pp_⟩ lines).2∧(F72 ⟨b_,pp_⟩ lines).2≤pp_+60)→K_):(0≤pp_∧pp_≤800000000∧b_.length≤2000∧LQ lines)∧(sv X_=sv X_)∧(Imp (.l 1 eByte b_) (.l 1 eByte b_))∧(Imps ([.v (vI pp_)]) ([.v (vI pp_)]))∧(Imp (.l 1 eStr lines) (.l 1 eStr lines))∧K_:=⟨⟨p0_,p1_,p2_,p3_⟩,rfl,Imp.refl _,Imps.refl _,Imp.refl _,k_ (near_q (⟨b_,pp_⟩:l51Rd) lines q0_ q1_ q2_)⟩
abbrev kh72l (X_:SV) (g_:Nat) (b_:List Int) (pp_:Int) (lines:List ByteArray):Hint true Tryz.prog:=.call 72 (S72 X_ g_ (⟨b_,pp_⟩:l51Rd) lines) (ok72 X_ g_ (⟨b_,pp_⟩:l51Rd) lines) none
theorem kc49l (X_:SV) (b_:List Int) (pp_:Int) (lines:List ByteArray) {K_:Prop} (p0_:0≤pp_) (p1_:pp_≤800000000) (p2_:b_.length≤2000) (p3_:LQ lines) (q0_:0≤pp_) (q1_:pp_≤800000000) (q2_:LQ lines) (k_:(LS (F49 ⟨b_,pp_⟩ lines).1∧0≤(F49 ⟨b_,pp_⟩ lines).2∧(F49 ⟨b_,pp_⟩ lines).2≤pp_+60)→K_):(0≤pp_∧pp_≤800000000∧b_.length≤2000∧LQ lines)∧(sv X_=sv X_)∧(Imp (.l 1 eByte b_) (.l 1 eByte b_))∧(Imps ([.v (vI pp_)]) ([.v (vI pp_)]))∧(Imp (.l 1 eStr lines) (.l 1 eStr lines))∧K_:=⟨⟨p0_,p1_,p2_,p3_⟩,rfl,Imp.refl _,Imps.refl _,Imp.refl _,k_ (spoil_q (⟨b_,pp_⟩:l51Rd) lines q0_ q1_ q2_)⟩
abbrev kh49l (X_:SV) (g_:Nat) (b_:List Int) (pp_:Int) (lines:List ByteArray):Hint true Tryz.prog:=.call 49 (S49 X_ g_ (⟨b_,pp_⟩:l51Rd) lines) (ok49 X_ g_ (⟨b_,pp_⟩:l51Rd) lines) none
abbrev w118_:ByteArray:=⟨#[114,117,108,101,32,110,101,119,32,49,32,100,101,110,121,32,48,46,48,47,48,32,48,46,48,47,48,32,48]⟩
abbrev w119_:ByteArray:=⟨#[110,111,98,111,100,121]⟩
abbrev w120_:ByteArray:=⟨#[65]⟩
def F28_j0 (Qa:SV) (code:List Int):Lp (List ByteArray) (List ByteArray×List ByteArray×ByteArray) :=
 bif ((F48 ⟨(F33 Qa code).1.b,(F72 ⟨(F33 Qa code).1.b,(F51 ⟨(F33 Qa code).1.b,(F33 Qa code).1.p⟩).2⟩ (F51 ⟨(F33 Qa code).1.b,(F33 Qa code).1.p⟩).1).2⟩ 3).1==0) then (bif (decide (((F51 ⟨(F33 Qa code).1.b,(F33 Qa code).1.p⟩).1.length:Int)<16)) then (.done (F79 (F51 ⟨(F33 Qa code).1.b,(F33 Qa code).1.p⟩).1 ⟨#[114,117,108,101,32,110,101,119,32,49,32,100,101,110,121,32,48,46,48,47,48,32,48,46,48,47,48,32,48]⟩)) else (.done (F51 ⟨(F33 Qa code).1.b,(F33 Qa code).1.p⟩).1)) else (.done (F72 ⟨(F33 Qa code).1.b,(F51 ⟨(F33 Qa code).1.b,(F33 Qa code).1.p⟩).2⟩ (F51 ⟨(F33 Qa code).1.b,(F33 Qa code).1.p⟩).1).1)
def F28_j1 (Qa:SV) (code:List Int) (b:List ByteArray):Lp (List ByteArray×Int) (List ByteArray×List ByteArray×ByteArray) :=
 bif ((F48 ⟨(F33 Qa code).1.b,(F48 ⟨(F33 Qa code).1.b,(F72 ⟨(F33 Qa code).1.b,(F51 ⟨(F33 Qa code).1.b,(F33 Qa code).1.p⟩).2⟩ (F51 ⟨(F33 Qa code).1.b,(F33 Qa code).1.p⟩).1).2⟩ 3).2⟩ 16).1==0) then (.done ((F49 ⟨(F33 Qa code).1.b,(F48 ⟨(F33 Qa code).1.b,(F48 ⟨(F33 Qa code).1.b,(F72 ⟨(F33 Qa code).1.b,(F51 ⟨(F33 Qa code).1.b,(F33 Qa code).1.p⟩).2⟩ (F51 ⟨(F33 Qa code).1.b,(F33 Qa code).1.p⟩).1).2⟩ 3).2⟩ 16).2⟩ b).1,(F49 ⟨(F33 Qa code).1.b,(F48 ⟨(F33 Qa code).1.b,(F48 ⟨(F33 Qa code).1.b,(F72 ⟨(F33 Qa code).1.b,(F51 ⟨(F33 Qa code).1.b,(F33 Qa code).1.p⟩).2⟩ (F51 ⟨(F33 Qa code).1.b,(F33 Qa code).1.p⟩).1).2⟩ 3).2⟩ 16).2⟩ b).2)) else (.done (b,(F48 ⟨(F33 Qa code).1.b,(F48 ⟨(F33 Qa code).1.b,(F72 ⟨(F33 Qa code).1.b,(F51 ⟨(F33 Qa code).1.b,(F33 Qa code).1.p⟩).2⟩ (F51 ⟨(F33 Qa code).1.b,(F33 Qa code).1.p⟩).1).2⟩ 3).2⟩ 16).2))
def F28 (Qa:SV) (code:List Int):List ByteArray×List ByteArray×ByteArray :=
 (F28_j0 Qa code).fin (fun r=>r) (fun b=>(F28_j1 Qa code b).fin (fun r=>r) (fun (b1,r1)=>((F51 ⟨(F33 Qa code).1.b,(F33 Qa code).1.p⟩).1,b1,(F67 ⟨(F33 Qa code).1.b,r1⟩ ([(⟨#[97,110,110]⟩:ByteArray),(⟨#[98,111,98]⟩:ByteArray),(⟨#[101,118,101]⟩:ByteArray),(⟨#[98,111,98]⟩:ByteArray),(⟨#[110,111,98,111,100,121]⟩:ByteArray),(⟨#[]⟩:ByteArray),(⟨#[65]⟩:ByteArray)]:List ByteArray)).1)))
abbrev jI28_0 (Qa:SV) (code:List Int) (b:List ByteArray):Prop:=LQ b∧(0≤(F48 ⟨(F33 Qa code).1.b,(F72 ⟨(F33 Qa code).1.b,(F51 ⟨(F33 Qa code).1.b,(F33 Qa code).1.p⟩).2⟩ (F51 ⟨(F33 Qa code).1.b,(F33 Qa code).1.p⟩).1).2⟩ 3).2∧(F48 ⟨(F33 Qa code).1.b,(F72 ⟨(F33 Qa code).1.b,(F51 ⟨(F33 Qa code).1.b,(F33 Qa code).1.p⟩).2⟩ (F51 ⟨(F33 Qa code).1.b,(F33 Qa code).1.p⟩).1).2⟩ 3).2≤700)
abbrev jJ28_0 (Qa:SV) (code:List Int) (j:List ByteArray):Prop:=(F28_j0 Qa code)=Lp.done j∧jI28_0 Qa code j
theorem jn28_0 (Qa:SV) (code:List Int) (b:List ByteArray) (e:(F28_j0 Qa code)=Lp.done b) (h:jI28_0 Qa code b):∃ j:List ByteArray,((.int .i64 (F48 ⟨(F33 Qa code).1.b,(F72 ⟨(F33 Qa code).1.b,(F51 ⟨(F33 Qa code).1.b,(F33 Qa code).1.p⟩).2⟩ (F51 ⟨(F33 Qa code).1.b,(F33 Qa code).1.p⟩).1).2⟩ 3).2:Value)=.int .i64 (F48 ⟨(F33 Qa code).1.b,(F72 ⟨(F33 Qa code).1.b,(F51 ⟨(F33 Qa code).1.b,(F33 Qa code).1.p⟩).2⟩ (F51 ⟨(F33 Qa code).1.b,(F33 Qa code).1.p⟩).1).2⟩ 3).2)∧((sv (F33 Qa code).2:Value)=sv (F33 Qa code).2)∧(Imp (.l 1 eByte (F33 Qa code).1.b) (.l 1 eByte (F33 Qa code).1.b))∧(Imp (.l 1 eStr (F51 ⟨(F33 Qa code).1.b,(F33 Qa code).1.p⟩).1) (.l 1 eStr (F51 ⟨(F33 Qa code).1.b,(F33 Qa code).1.p⟩).1))∧(Imp (.l 1 eStr b) (.l 1 eStr j))∧jJ28_0 Qa code j:=⟨b,rfl,rfl,Imp.refl _,Imp.refl _,Imp.refl _,e,h⟩
abbrev jI28_1 (Qa:SV) (code:List Int) (b:List ByteArray) (b1:List ByteArray) (r1:Int):Prop:=LS b1∧0≤r1∧r1≤3000
abbrev jJ28_1 (Qa:SV) (code:List Int) (b:List ByteArray) (j:List ByteArray×Int):Prop:=(F28_j1 Qa code b)=Lp.done j∧jI28_1 Qa code b j.1 j.2
theorem jn28_1 (Qa:SV) (code:List Int) (b:List ByteArray) (b1:List ByteArray) (r1:Int) (e:(F28_j1 Qa code b)=Lp.done (b1,r1)) (h:jI28_1 Qa code b b1 r1):∃ j:List ByteArray×Int,((.int .i64 r1:Value)=.int .i64 j.2)∧((sv (F33 Qa code).2:Value)=sv (F33 Qa code).2)∧(Imp (.l 1 eByte (F33 Qa code).1.b) (.l 1 eByte (F33 Qa code).1.b))∧(Imp (.l 1 eStr (F51 ⟨(F33 Qa code).1.b,(F33 Qa code).1.p⟩).1) (.l 1 eStr (F51 ⟨(F33 Qa code).1.b,(F33 Qa code).1.p⟩).1))∧(Imp (.l 1 eStr b1) (.l 1 eStr j.1))∧jJ28_1 Qa code b j:=⟨(b1,r1),rfl,rfl,Imp.refl _,Imp.refl _,Imp.refl _,e,h⟩
theorem fi28 (Qa:SV) (code:List Int) (r:List ByteArray×List ByteArray×ByteArray) (hF:r=(F28 Qa code)):(Imp (.l 1 eStr r.1) (.l 1 eStr (F28 Qa code).1))∧(Imp (.l 1 eStr r.2.1) (.l 1 eStr (F28 Qa code).2.1))∧((.string r.2.2:Value)=.string (F28 Qa code).2.2)∧True:=by cases hF; exact ⟨Imp.refl _,Imp.refl _,rfl,trivial⟩
def S28 (Qa:SV) (code:List Int):Spec:=⟨[.vl (sv Qa) (.l 1 eByte code)],.tu [.ow (.l 1 eStr (F28 Qa code).1),.ow (.l 1 eStr (F28 Qa code).2.1),.v (.string (F28 Qa code).2.2)],True⟩
theorem ok28 (Qa:SV) (code:List Int):(S28 Qa code).ok Tryz.prog 28 :=
 fnG_ok mixed (fn:=Tryz.f28) (ct:=.seqk [(0,0)] .no (.seqg 9 0 1000003 (sv (F33 Qa code).2) (.l 1 eByte (F33 Qa code).1.b) (.reg [(1,.call 33 (S33 Qa code) (ok33 Qa code) none)]) (.seq (.reg [(1,kh51l (F33 Qa code).2 1000003 (F33 Qa code).1.b (F33 Qa code).1.p)]) (.seq (.reg [(2,kh72l (F33 Qa code).2 1000003 (F33 Qa code).1.b (F51 ⟨(F33 Qa code).1.b,(F33 Qa code).1.p⟩).2 (F51 ⟨(F33 Qa code).1.b,(F33 Qa code).1.p⟩).1)]) (.cut (ι:=List ByteArray) (fun j=>(fun (b:List ByteArray)=>(⟨[(5,some (.p 0 0)),(6,some (.h 2 0)),(7,some (.h 3 0))],[(0,some (.box 86 [.h 1 0,.v (vI (F48 ⟨(F33 Qa code).1.b,(F72 ⟨(F33 Qa code).1.b,(F51 ⟨(F33 Qa code).1.b,(F33 Qa code).1.p⟩).2⟩ (F51 ⟨(F33 Qa code).1.b,(F33 Qa code).1.p⟩).1).2⟩ 3).2)])),(1,some (.vl (sv (F33 Qa code).2) (.l 1 eByte (F33 Qa code).1.b))),(2,some (.own 2 (.l 1 eStr (F51 ⟨(F33 Qa code).1.b,(F33 Qa code).1.p⟩).1))),(3,some (.own 3 (.l 1 eStr b)))],4⟩:St)) j) (jJ28_0 Qa code) (.seq (.reg [(1,kh48l (F33 Qa code).2 1000003 (F33 Qa code).1.b (F72 ⟨(F33 Qa code).1.b,(F51 ⟨(F33 Qa code).1.b,(F33 Qa code).1.p⟩).2⟩ (F51 ⟨(F33 Qa code).1.b,(F33 Qa code).1.p⟩).1).2 3)]) (.cond (.seq (.reg [(1,.call 80 (S80 (F51 ⟨(F33 Qa code).1.b,(F33 Qa code).1.p⟩).1 (F51 ⟨(F33 Qa code).1.b,(F33 Qa code).1.p⟩).1) (oa80 (F51 ⟨(F33 Qa code).1.b,(F33 Qa code).1.p⟩).1) none)]) (.seq .no (.cond (.reg [(1,.call 79 (S79 (F51 ⟨(F33 Qa code).1.b,(F33 Qa code).1.p⟩).1 w118_) (ok79 (F51 ⟨(F33 Qa code).1.b,(F33 Qa code).1.p⟩).1 w118_) none)]) .no))) .no)) (fun j=>(fun (b:List ByteArray)=>(.cut (ι:=List ByteArray×Int) (fun j=>(fun (b1:List ByteArray) (r1:Int)=>(⟨[(5,some (.p 0 0)),(6,some (.h 2 0)),(7,some (.h 3 0))],[(0,some (.box 86 [.h 1 0,.v (vI r1)])),(1,some (.vl (sv (F33 Qa code).2) (.l 1 eByte (F33 Qa code).1.b))),(2,some (.own 2 (.l 1 eStr (F51 ⟨(F33 Qa code).1.b,(F33 Qa code).1.p⟩).1))),(3,some (.own 3 (.l 1 eStr b1)))],4⟩:St)) j.1 j.2) (jJ28_1 Qa code b) (.seq (.reg [(1,kh48l (F33 Qa code).2 1 (F33 Qa code).1.b (F48 ⟨(F33 Qa code).1.b,(F72 ⟨(F33 Qa code).1.b,(F51 ⟨(F33 Qa code).1.b,(F33 Qa code).1.p⟩).2⟩ (F51 ⟨(F33 Qa code).1.b,(F33 Qa code).1.p⟩).1).2⟩ 3).2 16)]) (.cond (.reg [(2,kh49l (F33 Qa code).2 1 (F33 Qa code).1.b (F48 ⟨(F33 Qa code).1.b,(F48 ⟨(F33 Qa code).1.b,(F72 ⟨(F33 Qa code).1.b,(F51 ⟨(F33 Qa code).1.b,(F33 Qa code).1.p⟩).2⟩ (F51 ⟨(F33 Qa code).1.b,(F33 Qa code).1.p⟩).1).2⟩ 3).2⟩ 16).2 b)]) .no)) (fun j=>(fun (b1:List ByteArray) (r1:Int)=>(.seq (.reg [(3,.dat (.l 1 eStr ([w46_,w47_,w48_,w47_,w119_,w13_,w120_]:List ByteArray))),(4,kh67l (F33 Qa code).2 1 (F33 Qa code).1.b r1 ([w46_,w47_,w48_,w47_,w119_,w13_,w120_]:List ByteArray))]) .no)) j.1 j.2))) j)))))) Tryz.func28 (fun (_:True)=>kn code fun _=>ai trivial (ai (Eq.refl (sv Qa)) (ai (Imp.refl (.l 1 eByte code)) (have gv1:(F33 Qa code).1.b.length≤2000∧(F33 Qa code).1.p=0:=open_b Qa code; ai (Eq.refl (sv (F33 Qa code).2)) (ai (gd33 Qa code) (kc51l (F33 Qa code).2 (F33 Qa code).1.b (F33 Qa code).1.p (by omega) (by omega) (by omega) (by omega) (by omega) (fun gv2=>kc72l (F33 Qa code).2 (F33 Qa code).1.b (F51 ⟨(F33 Qa code).1.b,(F33 Qa code).1.p⟩).2 (F51 ⟨(F33 Qa code).1.b,(F33 Qa code).1.p⟩).1 (by omega) (by omega) (by omega) (by exact cq_lq (And.left (by assumption))) (by omega) (by omega) (by exact cq_lq (And.left (by assumption))) (fun gv3=>ai (kc48l (F33 Qa code).2 (F33 Qa code).1.b (F72 ⟨(F33 Qa code).1.b,(F51 ⟨(F33 Qa code).1.b,(F33 Qa code).1.p⟩).2⟩ (F51 ⟨(F33 Qa code).1.b,(F33 Qa code).1.p⟩).1).2 3 (by omega) (by omega) (by omega) (by omega) (by omega) (fun gv4=>have gv5:(F48 ⟨(F33 Qa code).1.b,(F72 ⟨(F33 Qa code).1.b,(F51 ⟨(F33 Qa code).1.b,(F33 Qa code).1.p⟩).2⟩ (F51 ⟨(F33 Qa code).1.b,(F33 Qa code).1.p⟩).1).2⟩ 3).1<(3:Int):=(by exact pick_lt _ _ _ (by omega) (by omega) (by omega)); ife (F48 ⟨(F33 Qa code).1.b,(F72 ⟨(F33 Qa code).1.b,(F51 ⟨(F33 Qa code).1.b,(F33 Qa code).1.p⟩).2⟩ (F51 ⟨(F33 Qa code).1.b,(F33 Qa code).1.p⟩).1).2⟩ 3).1 0 (fun h6 _=>ai (by (have h9:=cq_len (And.left (by assumption)); omega):(F51 ⟨(F33 Qa code).1.b,(F33 Qa code).1.p⟩).1.length≤1000000000) (ai (Imp.refl (.l 1 eStr (F51 ⟨(F33 Qa code).1.b,(F33 Qa code).1.p⟩).1)) (ifd (((F51 ⟨(F33 Qa code).1.b,(F33 Qa code).1.p⟩).1.length:Int)<16) (fun h7 _=>ai (ai (by omega:(F51 ⟨(F33 Qa code).1.b,(F33 Qa code).1.p⟩).1.length≤1048576) (by exact cq_sz (And.left (by assumption)):∀ k:Nat,((F51 ⟨(F33 Qa code).1.b,(F33 Qa code).1.p⟩).1.getD k default).size≤1048576)) (ai (Imp.refl (.l 1 eStr (F51 ⟨(F33 Qa code).1.b,(F33 Qa code).1.p⟩).1)) (ai (Imp.refl (.v (.string w118_))) (have gv8:(F79 (F51 ⟨(F33 Qa code).1.b,(F33 Qa code).1.p⟩).1 w118_).length=(F51 ⟨(F33 Qa code).1.b,(F33 Qa code).1.p⟩).1.length+1:=put_len (F51 ⟨(F33 Qa code).1.b,(F33 Qa code).1.p⟩).1 w118_; have gv9:∀ k:Nat,((F79 (F51 ⟨(F33 Qa code).1.b,(F33 Qa code).1.p⟩).1 w118_).getD k default).size≤1048576:=put_sz (F51 ⟨(F33 Qa code).1.b,(F33 Qa code).1.p⟩).1 w118_ (by exact cq_sz (And.left (by assumption)):∀ k:Nat,((F51 ⟨(F33 Qa code).1.b,(F33 Qa code).1.p⟩).1.getD k default).size≤1048576) (by decide:w118_.size≤1048576); jn28_0 Qa code (F79 (F51 ⟨(F33 Qa code).1.b,(F33 Qa code).1.p⟩).1 w118_) (Eq.symm (condT h6 (condT h7 rfl))) (by refine ⟨?_,?_⟩ <;> first | omega | (simp only [lens,ib] at*<;> omega) | omega | assumption | exact cq_lq (And.left (by assumption)) | exact put_lq (cq_lq (And.left (by assumption))) (by omega) (szLe (lit_le _) (by decide)) | exact And.left (by assumption) | exact lq_ls (by assumption) | exact lq_ls (And.left (by assumption))))))) (fun h7 _=>jn28_0 Qa code (F51 ⟨(F33 Qa code).1.b,(F33 Qa code).1.p⟩).1 (Eq.symm (condT h6 (condF h7 rfl))) (by refine ⟨?_,?_⟩ <;> first | omega | (simp only [lens,ib] at*<;> omega) | omega | assumption | exact cq_lq (And.left (by assumption)) | exact put_lq (cq_lq (And.left (by assumption))) (by omega) (szLe (lit_le _) (by decide)) | exact And.left (by assumption) | exact lq_ls (by assumption) | exact lq_ls (And.left (by assumption))))))) (fun h6 _=>jn28_0 Qa code (F72 ⟨(F33 Qa code).1.b,(F51 ⟨(F33 Qa code).1.b,(F33 Qa code).1.p⟩).2⟩ (F51 ⟨(F33 Qa code).1.b,(F33 Qa code).1.p⟩).1).1 (Eq.symm (condF h6 rfl)) (by refine ⟨?_,?_⟩ <;> first | omega | (simp only [lens,ib] at*<;> omega) | omega | assumption | exact cq_lq (And.left (by assumption)) | exact put_lq (cq_lq (And.left (by assumption))) (by omega) (szLe (lit_le _) (by decide)) | exact And.left (by assumption) | exact lq_ls (by assumption) | exact lq_ls (And.left (by assumption)))))) (fun (j:List ByteArray) (hj:jJ28_0 Qa code j)=>(fun (b:List ByteArray) (hJ0_10:(F28_j0 Qa code)=Lp.done b) (hw:jI28_0 Qa code b)=>have _:=hw.1; have _:=hw.2; ai (kc48l (F33 Qa code).2 (F33 Qa code).1.b (F48 ⟨(F33 Qa code).1.b,(F72 ⟨(F33 Qa code).1.b,(F51 ⟨(F33 Qa code).1.b,(F33 Qa code).1.p⟩).2⟩ (F51 ⟨(F33 Qa code).1.b,(F33 Qa code).1.p⟩).1).2⟩ 3).2 16 (by omega) (by omega) (by omega) (by omega) (by omega) (fun gv11=>have gv12:(F48 ⟨(F33 Qa code).1.b,(F48 ⟨(F33 Qa code).1.b,(F72 ⟨(F33 Qa code).1.b,(F51 ⟨(F33 Qa code).1.b,(F33 Qa code).1.p⟩).2⟩ (F51 ⟨(F33 Qa code).1.b,(F33 Qa code).1.p⟩).1).2⟩ 3).2⟩ 16).1<(16:Int):=(by exact pick_lt _ _ _ (by omega) (by omega) (by omega)); ife (F48 ⟨(F33 Qa code).1.b,(F48 ⟨(F33 Qa code).1.b,(F72 ⟨(F33 Qa code).1.b,(F51 ⟨(F33 Qa code).1.b,(F33 Qa code).1.p⟩).2⟩ (F51 ⟨(F33 Qa code).1.b,(F33 Qa code).1.p⟩).1).2⟩ 3).2⟩ 16).1 0 (fun h13 _=>kc49l (F33 Qa code).2 (F33 Qa code).1.b (F48 ⟨(F33 Qa code).1.b,(F48 ⟨(F33 Qa code).1.b,(F72 ⟨(F33 Qa code).1.b,(F51 ⟨(F33 Qa code).1.b,(F33 Qa code).1.p⟩).2⟩ (F51 ⟨(F33 Qa code).1.b,(F33 Qa code).1.p⟩).1).2⟩ 3).2⟩ 16).2 b (by omega) (by omega) (by omega) (by omega) (by omega) (by omega) (by omega) (fun gv14=>jn28_1 Qa code b (F49 ⟨(F33 Qa code).1.b,(F48 ⟨(F33 Qa code).1.b,(F48 ⟨(F33 Qa code).1.b,(F72 ⟨(F33 Qa code).1.b,(F51 ⟨(F33 Qa code).1.b,(F33 Qa code).1.p⟩).2⟩ (F51 ⟨(F33 Qa code).1.b,(F33 Qa code).1.p⟩).1).2⟩ 3).2⟩ 16).2⟩ b).1 (F49 ⟨(F33 Qa code).1.b,(F48 ⟨(F33 Qa code).1.b,(F48 ⟨(F33 Qa code).1.b,(F72 ⟨(F33 Qa code).1.b,(F51 ⟨(F33 Qa code).1.b,(F33 Qa code).1.p⟩).2⟩ (F51 ⟨(F33 Qa code).1.b,(F33 Qa code).1.p⟩).1).2⟩ 3).2⟩ 16).2⟩ b).2 (Eq.symm (condT h13 rfl)) (by refine ⟨?_,?_,?_⟩ <;> first | omega | (simp only [lens,ib] at*<;> omega) | omega | assumption | exact cq_lq (And.left (by assumption)) | exact put_lq (cq_lq (And.left (by assumption))) (by omega) (szLe (lit_le _) (by decide)) | exact And.left (by assumption) | exact lq_ls (by assumption) | exact lq_ls (And.left (by assumption))))) (fun h13 _=>jn28_1 Qa code b b (F48 ⟨(F33 Qa code).1.b,(F48 ⟨(F33 Qa code).1.b,(F72 ⟨(F33 Qa code).1.b,(F51 ⟨(F33 Qa code).1.b,(F33 Qa code).1.p⟩).2⟩ (F51 ⟨(F33 Qa code).1.b,(F33 Qa code).1.p⟩).1).2⟩ 3).2⟩ 16).2 (Eq.symm (condF h13 rfl)) (by refine ⟨?_,?_,?_⟩ <;> first | omega | (simp only [lens,ib] at*<;> omega) | omega | assumption | exact cq_lq (And.left (by assumption)) | exact put_lq (cq_lq (And.left (by assumption))) (by omega) (szLe (lit_le _) (by decide)) | exact And.left (by assumption) | exact lq_ls (by assumption) | exact lq_ls (And.left (by assumption)))))) (fun (j:List ByteArray×Int) (hj:jJ28_1 Qa code b j)=>(fun (b1:List ByteArray) (r1:Int) (hJ1_15:(F28_j1 Qa code b)=Lp.done (b1,r1)) (hw:jI28_1 Qa code b b1 r1)=>have _:=hw.1; have _:=hw.2.1; have _:=hw.2.2; ai (bokr 1 eStr ([w46_,w47_,w48_,w47_,w119_,w13_,w120_]:List ByteArray) fun _=>rfl) (kc67l (F33 Qa code).2 (F33 Qa code).1.b r1 ([w46_,w47_,w48_,w47_,w119_,w13_,w120_]:List ByteArray) (by omega) (by omega) (by omega) (by decide) (by decide) (by omega) (by omega) (by decide) (fun gv16=>fi28 Qa code ((F51 ⟨(F33 Qa code).1.b,(F33 Qa code).1.p⟩).1,b1,(F67 ⟨(F33 Qa code).1.b,r1⟩ ([w46_,w47_,w48_,w47_,w119_,w13_,w120_]:List ByteArray)).1) (finD hJ0_10 (finD hJ1_15 rfl))))) j.1 j.2 hj.1 hj.2)) j hj.1 hj.2))))))))) (by kernel_rfl)
theorem drawMay_q (Qa:SV) (code:List Int):CQ (F28 Qa code).1∧LS (F28 Qa code).2.1∧(F28 Qa code).2.2.size≤80∧(32:UInt8) ∉ (F28 Qa code).2.2.data.toList:=by
 obtain ⟨b0,p0⟩:=open_b Qa code
 obtain ⟨c1,c2,c3⟩:=conf_q (⟨(F33 Qa code).1.b,(F33 Qa code).1.p⟩:l51Rd) (by show 0≤(F33 Qa code).1.p; omega) (by show (F33 Qa code).1.p≤_; omega)
 have c3:(F51 (⟨(F33 Qa code).1.b,(F33 Qa code).1.p⟩:l51Rd)).2≤(F33 Qa code).1.p+400:=c3
 obtain ⟨d1,d2,d3⟩:=near_q (⟨(F33 Qa code).1.b,(F51 (⟨(F33 Qa code).1.b,(F33 Qa code).1.p⟩:l51Rd)).2⟩:l51Rd) (F51 (⟨(F33 Qa code).1.b,(F33 Qa code).1.p⟩:l51Rd)).1 c2 (by show (F51 (⟨(F33 Qa code).1.b,(F33 Qa code).1.p⟩:l51Rd)).2≤_; omega) (cq_lq c1)
 have d3:(F72 (⟨(F33 Qa code).1.b,(F51 (⟨(F33 Qa code).1.b,(F33 Qa code).1.p⟩:l51Rd)).2⟩:l51Rd) (F51 (⟨(F33 Qa code).1.b,(F33 Qa code).1.p⟩:l51Rd)).1).2≤(F51 (⟨(F33 Qa code).1.b,(F33 Qa code).1.p⟩:l51Rd)).2+60:=d3
 have j0:∃ b,F28_j0 Qa code=Lp.done b∧LQ b:=by
  unfold F28_j0
  cases ((F48 (⟨(F33 Qa code).1.b,(F72 (⟨(F33 Qa code).1.b,(F51 (⟨(F33 Qa code).1.b,(F33 Qa code).1.p⟩:l51Rd)).2⟩:l51Rd) ((F51 (⟨(F33 Qa code).1.b,(F33 Qa code).1.p⟩:l51Rd)).1)).2⟩:l51Rd) 3).1==0)
  ·exact ⟨_,rfl,d1⟩
  ·by_cases hl:(((F51 (⟨(F33 Qa code).1.b,(F33 Qa code).1.p⟩:l51Rd)).1).length:Int)<16
   ·rw [decide_eq_true hl]; exact ⟨_,rfl,put_lq (cq_lq c1) (by omega) (szLe (lit_le _) (by decide))⟩
   ·rw [decide_eq_false hl]; exact ⟨_,rfl,cq_lq c1⟩
 obtain ⟨b,e0,q0⟩:=j0
 have j1:∃ b1 r1,F28_j1 Qa code b=Lp.done (b1,r1)∧LS b1:=by
  unfold F28_j1
  refine cond_P (P:=fun x=>∃ b1 r1,x=Lp.done (b1,r1)∧LS b1) ⟨_,_,rfl,?_⟩ ⟨_,_,rfl,lq_ls q0⟩
  exact (spoil_q _ b (by simp only [pick_p]; omega) (by simp only [pick_p]; omega) q0).1
 obtain ⟨b1,r1,e1,q1⟩:=j1
 unfold F28
 rw [e0]
 simp only [Lp.fin]
 rw [e1]
 simp only [Lp.fin]
 refine ⟨c1,q1,of_le (n:=80) _ _ (by decide),?_⟩
 unfold F67
 have key:∀ k:Nat,(32:UInt8) ∉ (([(⟨#[97,110,110]⟩:ByteArray),(⟨#[98,111,98]⟩:ByteArray),(⟨#[101,118,101]⟩:ByteArray),(⟨#[98,111,98]⟩:ByteArray),(⟨#[110,111,98,111,100,121]⟩:ByteArray),(⟨#[]⟩:ByteArray),(⟨#[65]⟩:ByteArray)]:List ByteArray).getD k default).data.toList:=fun k=>by
  match k with
  | 0 | 1 | 2 | 3 | 4 | 5 | 6=>decide
  | k+7=>exact List.not_mem_nil
 exact key _
def badR (s x:ByteArray):Bool:=bif (!(s.toList==(⟨#[97,108,108]⟩:ByteArray).toList)) then (!(F84 (F85 s 44) x)) else false
theorem specMay_eq (now next:List ByteArray) (user:ByteArray) (na:F58 now=0) (nb:F58 next=0):F30 now next user=match now.filter (fun l=>isU user (F11 l).1) with | []=>false | l :: _=>!((F74 now next).any fun z=>badR ((F11 l).1.getD 2 default) ((F11 z).1.getD 0 default)):=by
 have hkn:=(nt_facts now na).2
 have hkx:=(nt_facts next nb).2
 unfold F30
 rw [na,nb]
 cases hu:F82 user with
 | false =>
  have hnil:now.filter (fun l=>isU user (F11 l).1)=[]:=by
   rw [List.filter_eq_nil_iff]
   intro l hl hc
   unfold isU at hc
   rw [Bool.and_eq_true] at hc
   have hP:=user_of (keptP l (hkn l hl)).form (eq_of_beq hc.1)
   have hnm:=hP.2.2.1
   rw [show (F11 l).1.getD 1 default=user from by
    have:=hc.2
    rw [beq_ba] at this
    exact of_decide_eq_true this] at hnm
   rw [hu] at hnm
   cases hnm
  rw [hnil]
  rfl
 | true =>
 have hno:=name_no user hu
 have hf:now.filter (fun l=>(F14 l).toList==((⟨#[117,115,101,114,32]⟩:ByteArray)++user).toList)=now.filter (fun l=>isU user (F11 l).1):=List.filter_congr fun l hl=>key_user l user (hkn l hl) hno
 have hO:∀ l r,now.filter (fun l=>isU user (F11 l).1)=l :: r→F78 now ((⟨#[117,115,101,114,32]⟩:ByteArray)++user)=l:=fun l r h=>by rw [of_eq,hf,h]
 rw [of_eq,hf]
 cases hfl:now.filter (fun l=>isU user (F11 l).1) with
 | nil =>
  show (bif ((⟨#[]⟩:ByteArray).toList==(⟨#[]⟩:ByteArray).toList) then false else _)=false
  rw [beq_self_eq_true]; rfl
 | cons l r =>
  have hO:=hO l r hfl
  have hm:l∈now.filter (fun l=>isU user (F11 l).1):=by rw [hfl]; exact List.mem_cons_self
  obtain ⟨hl,hl2⟩:=List.mem_filter.1 hm
  unfold isU at hl2
  rw [Bool.and_eq_true] at hl2
  have hp:=keptP l (hkn l hl)
  have hP:=user_of hp.form (eq_of_beq hl2.1)
  have hne:(l.toList==(⟨#[]⟩:ByteArray).toList)=false:=by
   rw [isE]
   cases hd:l.data.toList with
   | nil =>
    have hw0:=hp.splits
    rw [splitS_mk,hd] at hw0
    have n1:=(form_two_le _ hp.form).1
    rw [← hw0] at n1
    exact absurd n1 (by decide)
   | cons b r=>rfl
  have hs2:F83 l 2=(F11 l).1.getD 2 default:=by
   unfold F83
   rw [show decide ((2:Int)<((F11 l).1.length:Int))=true from decide_eq_true (by rw [hP.2.1]; decide)]
   rfl
  obtain ⟨D,e1,e2⟩:=diff_D now next na nb
  have hcs:=anyL (F26 now next) (fun d=>badR ((F11 l).1.getD 2 default) (F83 d 1)) false (F30_s0 now next user) (fun i hi=>by
   simp only [F30_s0,ltD hi,cond_true,nn,hO,hs2]
   rfl) (by simp only [F30_s0,geD,cond_false]) (fun r=>r) (fun _=>true) true (fun _=>rfl)
  show (bif (l.toList==(⟨#[]⟩:ByteArray).toList) then false else _)=_
  rw [hne,cond_false]
  refine hcs.trans ?_
  show _=!((F74 now next).any fun z=>badR ((F11 l).1.getD 2 default) ((F11 z).1.getD 0 default))
  rw [e1,e2,List.any_map,List.any_map]
  rw [any_congr_mem (q:=(fun z=>badR ((F11 l).1.getD 2 default) ((F11 z).1.getD 0 default)) ∘ (·.2)) fun tz htz=>?_]
  ·cases D.any _ <;> rfl
  obtain ⟨t,z⟩:=tz
  have hz:z∈F74 now next:=by rw [e2]; exact List.mem_map.2 ⟨_,htz,rfl⟩
  have hkz:F47 z=true:=by
   rcases justOne_mem.1 hz with h | h
   ·exact hkn z h.1
   ·exact hkx z h.1
  obtain ⟨w1,w2⟩:=told_words t z hkz
  have hw1:F83 (txtD (t,z)) 1=(F11 z).1.getD 0 default:=by
   unfold F83
   rw [show decide ((1:Int)<((F11 (txtD (t,z))).1.length:Int))=true from decide_eq_true (by omega)]
   exact w1
  show badR _ (F83 (txtD (t,z)) 1)=badR _ _
  rw [hw1]
theorem anyF_none {p:Nat→Bool}:∀ (m i:Nat),anyF p i m=false→∀ k,i≤k→k<i+m→p k=false
 | 0,i,_,k,h1,h2=>by omega
 | m+1,i,h,k,h1,h2=>by
  rw [anyF,Bool.or_eq_false_iff] at h
  rcases Nat.eq_or_lt_of_le h1 with rfl | hlt
  ·exact h.1
  ·exact anyF_none m (i+1) h.2 k hlt (by omega)
theorem neat_keys (lines:List ByteArray) (h:F58 lines=0):(lines.map F14).Nodup:=by
 have hk:=(nt_facts lines h).2
 unfold F58 at h
 cases h16:decide ((lines.length:Int)>16) with
 | true=>rw [h16,cond_true] at h; exact absurd h (by decide)
 | false =>
 rw [h16,cond_false] at h
 have h0:=fun (f:Int→Int) (g:Int→Int) (y:Int) (hg:∀ i,g i=y)=>anyL lines (fun l=>!F47 l) (2:Int) (F58_s0 lines) (fun i hi=>by
  simp only [F58_s0,ltD hi,cond_true,nn,getD_map _ _ _ hi,key_empty]
  rfl) (by simp only [F58_s0,geD,cond_false]) f g y hg
 have hany:(lines.any fun l=>!F47 l)=false:=by
  rw [Bool.eq_false_iff]
  intro hc
  obtain ⟨x,hx,hp⟩:=List.any_eq_true.1 hc
  rw [hk x hx] at hp
  cases hp
 rw [h0 (fun r=>r) _ _ (fun _=>rfl),hany,cond_false] at h
 have h3:(runL (F58_s2 lines) ((Int.toNat ((lines.length:Int)-0))+1) 0).fin (fun r=>r) (fun i42=>0)=0:=by
  rcases Nat.eq_zero_or_pos lines.length with hz | hz
  ·have:lines=[]:=List.eq_nil_of_length_eq_zero hz
   subst this; rfl
  ·have h1:=fun (y:Int)=>any_loop (F58_s1 lines) lines.length (fun k=>(!(Op.bytesLess (lines.getD (k-1) default).toList (lines.getD k default).toList))) (3:Int) (fun r=>r) y (fun k hk=>by
    simp only [F58_s1,ltD hk,cond_true,nn]
    rw [show Int.toNat ((k:Int)-1)=k-1 by omega]; rfl) (by simp only [F58_s1,geD,cond_false]) (lines.length-1) 1 (by omega) (Int.toNat ((lines.length:Int)-1)+1) (by omega)
   have h2:=h1 ((runL (F58_s2 lines) ((Int.toNat ((lines.length:Int)-0))+1) 0).fin (fun r=>r) (fun i42=>0))
   have h3:=h2.symm.trans h
   cases ha:anyF (fun k=>(!(Op.bytesLess (lines.getD (k-1) default).toList (lines.getD k default).toList))) 1 (lines.length-1) with
   | true=>rw [ha,cond_true] at h3; exact absurd h3 (by decide)
   | false=>rw [ha,cond_false] at h3; exact h3
 have h4:=any_loop (F58_s2 lines) lines.length (fun k=>decide ((lines.map F14).getD k default∈(lines.map F14).take k)) (4:Int) (fun r=>r) (0:Int) (fun i hi=>by
  simp only [F58_s2,ltD hi,cond_true,nn,specHas_mem]; rfl) (by simp only [F58_s2,geD,cond_false]) lines.length 0 (by omega) (Int.toNat ((lines.length:Int)-0)+1) (by omega)
 have h5:=h4.symm.trans h3
 cases hb:anyF (fun k=>decide ((lines.map F14).getD k default∈(lines.map F14).take k)) 0 lines.length with
 | true=>rw [hb,cond_true] at h5; exact absurd h5 (by decide)
 | false =>
  refine List.pairwise_iff_getElem.2 fun i j hi hj hij e=>?_
  have hj':j<lines.length:=by simpa using hj
  have:=of_decide_eq_false (anyF_none _ _ hb j (Nat.zero_le _) (by omega))
  refine this ?_
  rw [List.getD_eq_getElem?_getD,List.getElem?_eq_getElem hj,Option.getD_some,← e]
  exact List.mem_take_iff_getElem.2 ⟨i,by omega,rfl⟩
def F12_s0 (a:List ByteArray) (b:List ByteArray):Int→Lp Int Bool:=fun i40 =>
 bif (decide (i40<(a.length:Int))) then (bif (!((a.getD (Int.toNat i40) default).toList==(b.getD (Int.toNat i40) default).toList)) then (.ret false) else (.next (i40+1))) else (.done i40)
def F12 (a:List ByteArray) (b:List ByteArray):Bool :=
 bif ((a.length:Int) != (b.length:Int)) then false else ((runL (F12_s0 a b) ((Int.toNat ((a.length:Int)-0))+1) 0).fin (fun r=>r) (fun i40=>true))
abbrev lN12_0 (a:List ByteArray):Nat×Int:=(((Int.toNat ((a.length:Int)-0))+1),0)
abbrev lI12_0 (a:List ByteArray) (m39:Nat) (i40:Int):Prop:=Int.toNat ((a.length:Int)-i40)<m39∧(0:Int)≤i40
abbrev lX12_0 (a:List ByteArray) (b:List ByteArray):Lp Int Bool:=LpX (F12_s0 a b) (lN12_0 a)
abbrev lJ12_0 (a:List ByteArray) (b:List ByteArray) (i:Nat×Int):Prop:=LpJ (F12_s0 a b) (lN12_0 a) i (lI12_0 a i.1 i.2)
abbrev lH12_0 (a:List ByteArray) (b:List ByteArray) (i:Nat×Int) (m39:Nat) (i40:Int):Prop:=LpH (F12_s0 a b) (lN12_0 a) i m39 i40 (lI12_0 a (m39+1) i40)
abbrev lE12_0 (a:List ByteArray) (b:List ByteArray) (i40:Int) (i40_:Int) (K39:Prop):Prop:=((.int .i64 i40:Value)=.int .i64 i40_)∧(Im (.l 1 eStr a))∧(Im (.l 1 eStr b))∧K39
theorem un12_0 (a:List ByteArray) (b:List ByteArray) (i:Nat×Int) (h:lJ12_0 a b i):lH12_0 a b i (i.1-1) i.2:=⟨hd1 h.1 h.2.1,hd3 h.2.1,hd2 h.2.1,h.2.2⟩
theorem bk12_0 (a:List ByteArray) (b:List ByteArray) (i:Nat×Int) (m39:Nat) (i40:Int) (hl:m39<i.1) (e:runL (F12_s0 a b) m39 i40=lX12_0 a b) (h:lI12_0 a m39 i40):∃ j:Nat×Int,lE12_0 a b i40 j.2 (lJ12_0 a b j∧j.1<i.1):=⟨(m39,i40),rfl,Imp.refl _,Imp.refl _,⟨e,h⟩,hl⟩
theorem en12_0 (a:List ByteArray) (b:List ByteArray) (h:(0:Int)≤0):lE12_0 a b 0 0 (lJ12_0 a b (lN12_0 a)):=⟨rfl,Imp.refl _,Imp.refl _,rfl,Nat.lt_succ_self _,h⟩
def S12 (R:Bool) (a:List ByteArray) (b:List ByteArray):Spec:=⟨[.r (.c (.l 1 eStr a)),.r (.c (.l 1 eStr b))],.v (.bool R),True⟩
theorem ok12 (a:List ByteArray) (b:List ByteArray):(S12 (F12 a b) a b).ok Tryz.prog 12 :=
 fnG_ok mixed (fn:=Tryz.f12) (ct:=.seqk [(0,0),(1,0)] .no (.seq (.seq .no (.cond (.seq .no .no) .no)) (.seq (.seqk [(0,0),(1,0)] .no (.blk (.loop (ι:=Nat×Int) (fun i=>(fun (i40:Int)=>(⟨[(0,some (.h 0 0)),(1,some (.h 1 0)),(5,some (.v (vI i40)))],[(0,some (.shr none (.l 1 eStr a))),(1,some (.shr none (.l 1 eStr b)))],2⟩:St)) i.2) (lJ12_0 a b) (fun i=>i.1) (lN12_0 a) (fun i=>(fun (i40:Int)=>(.seq (.seq .no (.cond .no .no)) (.seq (.blk (.seq .no (.cond (.seq .no .no) .no))) (.reg [(1,.bnd)])))) i.2)))) (.seq .no .no)))) Tryz.func12 (fun (_:True)=>kn a fun _=>kn b fun _=>ifn (a.length:Int) (b.length:Int) (fun h1 _=>fiB false (F12 a b) (condT h1 rfl)) (fun h1 _=>kn a fun _=>kn b fun _=>ai (en12_0 a b (by omega)) (fun (i0:Nat×Int) (hi0:lJ12_0 a b i0)=>(fun (m0:Nat) (i40:Int) (hh0:lH12_0 a b i0 m0 i40)=>have hI0:=hh0.1; have hl0:=hh0.2.1; have _:=hh0.2.2.1; have _:=hh0.2.2.2; ifd (i40<(a.length:Int)) (fun h3 _=>ai (by omega:ib i40 a) (ai (by omega:ib i40 b) (ifb (!((a.getD (Int.toNat i40) default).toList==(b.getD (Int.toNat i40) default).toList)) (fun h4=>fiB false (F12 a b) (condF h1 (finR (runL_ret hI0 (condT h3 (condT h4 rfl))) rfl))) (fun h4=>ai (iok (i40+1) (by omega)) (bk12_0 a b i0 m0 (i40+1) hl0 (runL_next hI0 (condT h3 (condF h4 rfl))) (by refine ⟨?_,?_⟩ <;> omega)))))) (fun h3 _=>have hD0_5:lX12_0 a b=Lp.done i40:=runL_done hI0 (condF h3 rfl); fiB true (F12 a b) (condF h1 (finD hD0_5 rfl)))) (i0.1-1) i0.2 (un12_0 a b i0 hi0)))) (by kernel_rfl)
theorem as12 (a:List ByteArray) (b:List ByteArray):F12 a b=(decide (a=b)):=by
 exact eq_loop (fun x y=>decide (x=y)) (fun _ _=>rfl) a b (F12_s0 a b) (fun i=>by simp only [F12_s0,neI,neB,neS])
theorem oa12 (a:List ByteArray) (b:List ByteArray):(S12 (decide (a=b)) a b).ok Tryz.prog 12:=by
 intro hp; have h:=ok12 a b hp; rw [as12 a b] at h; exact h
def F31_s0 (lines:List ByteArray):(List ByteArray×Int)→Lp (List ByteArray×Int) (List ByteArray):=fun (out,i40) =>
 bif (decide (i40<(lines.length:Int))) then (bif (bif decide (((lines.getD (Int.toNat i40) default).size:Int)>5) then (((lines.getD (Int.toNat i40) default).extract (Int.toNat (0:Int)) (Int.toNat (5:Int))).toList==(⟨#[117,115,101,114,32]⟩:ByteArray).toList) else false) then (.next ((out++[(lines.getD (Int.toNat i40) default)]),(i40+1))) else (.next (out,(i40+1)))) else (.done (out,i40))
def F31 (lines:List ByteArray):List ByteArray :=
 (runL (F31_s0 lines) ((Int.toNat ((lines.length:Int)-0))+1) (([]:List ByteArray),0)).fin (fun r=>r) (fun (out,i40)=>out)
abbrev lN31_0 (lines:List ByteArray):Nat×(List ByteArray×Int):=(((Int.toNat ((lines.length:Int)-0))+1),(([]:List ByteArray),0))
abbrev lI31_0 (lines:List ByteArray) (m39:Nat) (out:List ByteArray) (i40:Int):Prop:=Int.toNat ((lines.length:Int)-i40)<m39∧(out.length:Int)≤i40∧(0:Int)≤i40
abbrev lX31_0 (lines:List ByteArray):Lp (List ByteArray×Int) (List ByteArray):=LpX (F31_s0 lines) (lN31_0 lines)
abbrev lJ31_0 (lines:List ByteArray) (i:Nat×(List ByteArray×Int)):Prop:=LpJ (F31_s0 lines) (lN31_0 lines) i (lI31_0 lines i.1 i.2.1 i.2.2)
abbrev lH31_0 (lines:List ByteArray) (i:Nat×(List ByteArray×Int)) (m39:Nat) (out:List ByteArray) (i40:Int):Prop:=LpH (F31_s0 lines) (lN31_0 lines) i m39 (out,i40) (lI31_0 lines (m39+1) out i40)
abbrev lE31_0 (lines:List ByteArray) (out:List ByteArray) (i40:Int) (out_:List ByteArray) (i40_:Int) (K39:Prop):Prop:=((.int .i64 i40:Value)=.int .i64 i40_)∧(Im (.l 1 eStr lines))∧(Imp (.l 1 eStr out) (.l 1 eStr out_))∧K39
theorem un31_0 (lines:List ByteArray) (i:Nat×(List ByteArray×Int)) (h:lJ31_0 lines i):lH31_0 lines i (i.1-1) i.2.1 i.2.2:=⟨hd1 h.1 h.2.1,hd3 h.2.1,hd2 h.2.1,h.2.2⟩
theorem bk31_0 (lines:List ByteArray) (i:Nat×(List ByteArray×Int)) (m39:Nat) (out:List ByteArray) (i40:Int) (hl:m39<i.1) (e:runL (F31_s0 lines) m39 (out,i40)=lX31_0 lines) (h:lI31_0 lines m39 out i40):∃ j:Nat×(List ByteArray×Int),lE31_0 lines out i40 j.2.1 j.2.2 (lJ31_0 lines j∧j.1<i.1):=⟨(m39,(out,i40)),rfl,Imp.refl _,Imp.refl _,⟨e,h⟩,hl⟩
theorem en31_0 (lines:List ByteArray) (h:(([]:List ByteArray).length:Int)≤0∧(0:Int)≤0):lE31_0 lines ([]:List ByteArray) 0 ([]:List ByteArray) 0 (lJ31_0 lines (lN31_0 lines)):=⟨rfl,Imp.refl _,Imp.refl _,rfl,Nat.lt_succ_self _,h⟩
theorem fi31 (lines:List ByteArray) (r:List ByteArray) (hF:r=(F31 lines)):(Imp (.l 1 eStr r) (.l 1 eStr (F31 lines)))∧True:=by cases hF; exact ⟨Imp.refl _,trivial⟩
def S31 (lines:List ByteArray):Spec:=⟨[.r (.c (.l 1 eStr lines))],.ow (.l 1 eStr (F31 lines)),lines.length≤1000⟩
theorem ok31 (lines:List ByteArray):(S31 lines).ok Tryz.prog 31 :=
 fnG_ok mixed (fn:=Tryz.f31) (ct:=.seqk [(0,0)] .no (.seq (.reg [(0,.dat (.l 1 eStr ([]:List ByteArray)))]) (.seq (.seqk [(0,0),(3,0)] .no (.blk (.loop (ι:=Nat×(List ByteArray×Int)) (fun i=>(fun (out:List ByteArray) (i40:Int)=>(⟨[(0,some (.h 0 0)),(3,some (.h 1 0)),(4,some (.v (vI i40)))],[(0,some (.shr none (.l 1 eStr lines))),(1,some (.own 1 (.l 1 eStr out)))],2⟩:St)) i.2.1 i.2.2) (lJ31_0 lines) (fun i=>i.1) (lN31_0 lines) (fun i=>(fun (out:List ByteArray) (i40:Int)=>(.seq (.seq .no (.cond .no .no)) (.seq (.blk (.seq .no (.cond (.reg [(6,.dat (.l 1 eStr (out++[(lines.getD (Int.toNat i40) default)])))]) .no))) (.reg [(1,.bnd)])))) i.2.1 i.2.2)))) (.seq .no .no)))) Tryz.func31 (fun (hpre0:lines.length≤1000)=>kn lines fun _=>ai (bokr 1 eStr ([]:List ByteArray) fun _=>rfl) (kn lines fun _=>kn ([]:List ByteArray) fun _=>ai (en31_0 lines (by refine ⟨?_,?_⟩ <;> (simp only [lens,ib] at*<;> omega))) (fun (i0:Nat×(List ByteArray×Int)) (hi0:lJ31_0 lines i0)=>(fun (m0:Nat) (out:List ByteArray) (i40:Int) (hh0:lH31_0 lines i0 m0 out i40)=>have hI0:=hh0.1; have hl0:=hh0.2.1; have _:=hh0.2.2.1; have _:=hh0.2.2.2; ifd (i40<(lines.length:Int)) (fun h2 _=>ai (by omega:ib i40 lines) (ai (fun k3:(decide (((lines.getD (Int.toNat i40) default).size:Int)>5))=true=>have _:=of_decide_eq_true k3; (by omega:ib i40 lines)) (ai (fun k4:(decide (((lines.getD (Int.toNat i40) default).size:Int)>5))=true=>have _:=of_decide_eq_true k4; (by omega:0≤(0:Int)∧(0:Int)≤(5:Int)∧(5:Int)≤((lines.getD (Int.toNat i40) default).size:Int))) (ifb (bif decide (((lines.getD (Int.toNat i40) default).size:Int)>5) then (((lines.getD (Int.toNat i40) default).extract (Int.toNat (0:Int)) (Int.toNat (5:Int))).toList==w22_.toList) else false) (fun h5=>have _:=of_decide_eq_true (andT1 h5); have _:(((lines.getD (Int.toNat i40) default).extract (Int.toNat (0:Int)) (Int.toNat (5:Int))).toList==w22_.toList)=true:=(andT2 h5); ai (by omega:ib i40 lines) (ai (appr 1 eStr out [(lines.getD (Int.toNat i40) default)] fun _=>rfl) (ai (by (try simp only [lens]); omega:(out++[(lines.getD (Int.toNat i40) default)]).length*16≤140737488355328) (ai (iok (i40+1) (by omega)) (bk31_0 lines i0 m0 (out++[(lines.getD (Int.toNat i40) default)]) (i40+1) hl0 (runL_next hI0 (condT h2 (condT h5 rfl))) (by refine ⟨?_,?_,?_⟩ <;> (simp only [lens,ib] at*<;> omega))))))) (fun h5=>ai (iok (i40+1) (by omega)) (bk31_0 lines i0 m0 out (i40+1) hl0 (runL_next hI0 (condT h2 (condF h5 rfl))) (by refine ⟨?_,?_,?_⟩ <;> omega))))))) (fun h2 _=>have hD0_6:lX31_0 lines=Lp.done (out,i40):=runL_done hI0 (condF h2 rfl); fi31 lines out (finD hD0_6 rfl))) (i0.1-1) i0.2.1 i0.2.2 (un31_0 lines i0 hi0)))) (by kernel_rfl)
theorem kc29 (now:List ByteArray) (next:List ByteArray) (user:ByteArray) {K_:Prop} (p0_:now.length≤1048576) (p1_:next.length≤1048576) (p2_:∀ k:Nat,(now.getD k default).size≤1048576) (p3_:∀ k:Nat,(next.getD k default).size≤1048576) (k_:K_):(now.length≤1048576∧next.length≤1048576∧(∀ k:Nat,(now.getD k default).size≤1048576)∧(∀ k:Nat,(next.getD k default).size≤1048576))∧(Imp (.l 1 eStr now) (.l 1 eStr now))∧(Imp (.l 1 eStr next) (.l 1 eStr next))∧(Imp (.v (.string user)) (.v (.string user)))∧K_:=⟨⟨p0_,p1_,p2_,p3_⟩,Imp.refl _,Imp.refl _,Imp.refl _,k_⟩
abbrev kh29 (now:List ByteArray) (next:List ByteArray) (user:ByteArray):Hint false Tryz.prog:=.call 29 (S29 now next user) (ok29 now next user) none
theorem kc30 (now:List ByteArray) (next:List ByteArray) (user:ByteArray) {K_:Prop} (p0_:now.length≤1048576) (p1_:next.length≤1048576) (p2_:user.size≤1048576) (p3_:∀ k:Nat,(now.getD k default).size≤1048576) (p4_:∀ k:Nat,(next.getD k default).size≤1048576) (k_:K_):(now.length≤1048576∧next.length≤1048576∧user.size≤1048576∧(∀ k:Nat,(now.getD k default).size≤1048576)∧(∀ k:Nat,(next.getD k default).size≤1048576))∧(Imp (.l 1 eStr now) (.l 1 eStr now))∧(Imp (.l 1 eStr next) (.l 1 eStr next))∧(Imp (.v (.string user)) (.v (.string user)))∧K_:=⟨⟨p0_,p1_,p2_,p3_,p4_⟩,Imp.refl _,Imp.refl _,Imp.refl _,k_⟩
abbrev kh30f (now:List ByteArray) (next:List ByteArray) (user:ByteArray):Hint false Tryz.prog:=.call 30 (S30 now next user) ((ok30 now next user).to false) none
theorem kg29 {K_:Prop} (c_ b_:Bool) (now:List ByteArray) (next:List ByteArray) (user:ByteArray) (p_:c_=b_→now.length≤1048576∧next.length≤1048576∧(∀ k:Nat,(now.getD k default).size≤1048576)∧(∀ k:Nat,(next.getD k default).size≤1048576)) (k_:K_):(c_=b_→now.length≤1048576∧next.length≤1048576∧(∀ k:Nat,(now.getD k default).size≤1048576)∧(∀ k:Nat,(next.getD k default).size≤1048576))∧(c_=b_→Imp (.l 1 eStr now) (.l 1 eStr now))∧(c_=b_→Imp (.l 1 eStr next) (.l 1 eStr next))∧(c_=b_→Imp (.v (.string user)) (.v (.string user)))∧K_:=⟨p_,fun _=>Imp.refl _,fun _=>Imp.refl _,fun _=>Imp.refl _,k_⟩
abbrev kh14f (line:ByteArray):Hint false Tryz.prog:=.call 14 (S14 line) ((ok14 line).to false) none
abbrev kh19f (lines:List ByteArray):Hint false Tryz.prog:=.call 19 (S19 lines) ((ok19 lines).to false) none
theorem kg19 {K_:Prop} (c_ b_:Bool) (lines:List ByteArray) (p_:c_=b_→lines.length≤1048576∧(∀ k:Nat,(lines.getD k default).size≤1048576)) (k_:K_):(c_=b_→lines.length≤1048576∧(∀ k:Nat,(lines.getD k default).size≤1048576))∧(c_=b_→Imp (.l 1 eStr lines) (.l 1 eStr lines))∧K_:=⟨p_,fun _=>Imp.refl _,k_⟩
theorem kg12a {K_:Prop} (c_ b_:Bool) (a:List ByteArray) (b:List ByteArray) (k_:K_):(c_=b_→True)∧(c_=b_→Imp (.l 1 eStr a) (.l 1 eStr a))∧(c_=b_→Imp (.l 1 eStr b) (.l 1 eStr b))∧K_:=⟨fun _=>trivial,fun _=>Imp.refl _,fun _=>Imp.refl _,k_⟩
abbrev kh12af (a:List ByteArray) (b:List ByteArray):Hint false Tryz.prog:=.call 12 (S12 (decide (a=b)) a b) ((oa12 a b).to false) none
theorem kg31 {K_:Prop} (c_ b_:Bool) (lines:List ByteArray) (p_:c_=b_→lines.length≤1000) (k_:K_):(c_=b_→lines.length≤1000)∧(c_=b_→Imp (.l 1 eStr lines) (.l 1 eStr lines))∧K_:=⟨p_,fun _=>Imp.refl _,k_⟩
abbrev kh31f (lines:List ByteArray):Hint false Tryz.prog:=.call 31 (S31 lines) ((ok31 lines).to false) none
abbrev w121_:ByteArray:=⟨#[32,97,108,108]⟩
abbrev w122_:ByteArray:=⟨#[32,110,111,110,101]⟩
abbrev w123_:ByteArray:=⟨#[32,114,111,117,116,101,44,114,117,108,101]⟩
def F6_s0 (Qa:SV) (code:List Int):(ByteArray×Int)→Lp (ByteArray×Int) Bool:=fun (line,i40) =>
 bif (decide (i40<((F28 Qa code).1.length:Int))) then (bif ((F14 ((F28 Qa code).1.getD (Int.toNat i40) default)).toList==((⟨#[117,115,101,114,32]⟩:ByteArray)++(F28 Qa code).2.2).toList) then (.next (((F28 Qa code).1.getD (Int.toNat i40) default),(i40+1))) else (.next (line,(i40+1)))) else (.done (line,i40))
def F6 (Qa:SV) (code:List Int):Bool :=
 bif (decide ((code.length:Int)>1048576)) then true else (bif (!((F29 (F28 Qa code).1 (F28 Qa code).2.1 (F28 Qa code).2.2)==(F30 (F28 Qa code).1 (F28 Qa code).2.1 (F28 Qa code).2.2))) then false else (bif (bif (F29 (F28 Qa code).1 (F28 Qa code).2.1 (F28 Qa code).2.2) then (!(F29 (F28 Qa code).1 (F28 Qa code).1 (F28 Qa code).2.2)) else false) then false else ((runL (F6_s0 Qa code) ((Int.toNat (((F28 Qa code).1.length:Int)-0))+1) ((⟨#[]⟩:ByteArray),0)).fin (fun r=>r) (fun (line,i40)=>bif (line.toList==(⟨#[]⟩:ByteArray).toList) then (!(F29 (F28 Qa code).1 (F28 Qa code).2.1 (F28 Qa code).2.2)) else (bif (line.toList==(((⟨#[117,115,101,114,32]⟩:ByteArray)++(F28 Qa code).2.2)++(⟨#[32,97,108,108]⟩:ByteArray)).toList) then ((F29 (F28 Qa code).1 (F28 Qa code).2.1 (F28 Qa code).2.2)==(bif ((F19 (F28 Qa code).1)==0) then (bif ((F19 (F28 Qa code).2.1)==0) then true else decide ((F19 (F28 Qa code).2.1)>4)) else false)) else (bif (line.toList==(((⟨#[117,115,101,114,32]⟩:ByteArray)++(F28 Qa code).2.2)++(⟨#[32,110,111,110,101]⟩:ByteArray)).toList) then ((F29 (F28 Qa code).1 (F28 Qa code).2.1 (F28 Qa code).2.2)==(bif (bif ((F19 (F28 Qa code).1)==0) then (bif ((F19 (F28 Qa code).2.1)==0) then true else decide ((F19 (F28 Qa code).2.1)>4)) else false) then (decide ((F28 Qa code).1=(F28 Qa code).2.1)) else false)) else (bif (line.toList==(((⟨#[117,115,101,114,32]⟩:ByteArray)++(F28 Qa code).2.2)++(⟨#[32,114,111,117,116,101,44,114,117,108,101]⟩:ByteArray)).toList) then (bif (!(F29 (F28 Qa code).1 (F28 Qa code).2.1 (F28 Qa code).2.2)) then true else (decide ((F31 (F28 Qa code).1)=(F31 (F28 Qa code).2.1)))) else (bif (!(F29 (F28 Qa code).1 (F28 Qa code).2.1 (F28 Qa code).2.2)) then true else (bif ((F19 (F28 Qa code).1)==0) then (bif ((F19 (F28 Qa code).2.1)==0) then true else decide ((F19 (F28 Qa code).2.1)>4)) else false)))))))))
abbrev lN6_0 (Qa:SV) (code:List Int):Nat×(ByteArray×Int):=(((Int.toNat (((F28 Qa code).1.length:Int)-0))+1),(w13_,0))
abbrev lI6_0 (Qa:SV) (code:List Int) (m39:Nat) (line:ByteArray) (i40:Int):Prop:=Int.toNat (((F28 Qa code).1.length:Int)-i40)<m39∧line.size≤900∧(0:Int)≤i40
abbrev lX6_0 (Qa:SV) (code:List Int):Lp (ByteArray×Int) Bool:=LpX (F6_s0 Qa code) (lN6_0 Qa code)
abbrev lJ6_0 (Qa:SV) (code:List Int) (i:Nat×(ByteArray×Int)):Prop:=LpJ (F6_s0 Qa code) (lN6_0 Qa code) i (lI6_0 Qa code i.1 i.2.1 i.2.2)
abbrev lH6_0 (Qa:SV) (code:List Int) (i:Nat×(ByteArray×Int)) (m39:Nat) (line:ByteArray) (i40:Int):Prop:=LpH (F6_s0 Qa code) (lN6_0 Qa code) i m39 (line,i40) (lI6_0 Qa code (m39+1) line i40)
abbrev lE6_0 (Qa:SV) (code:List Int) (line:ByteArray) (i40:Int) (line_:ByteArray) (i40_:Int) (K39:Prop):Prop:=(Rf (.string (F28 Qa code).2.2))∧(Rf (.bool (F29 (F28 Qa code).1 (F28 Qa code).2.1 (F28 Qa code).2.2)))∧((.string line:Value)=.string line_)∧((.int .i64 i40:Value)=.int .i64 i40_)∧(Im (.l 1 eStr (F28 Qa code).1))∧(Im (.l 1 eStr (F28 Qa code).2.1))∧K39
theorem un6_0 (Qa:SV) (code:List Int) (i:Nat×(ByteArray×Int)) (h:lJ6_0 Qa code i):lH6_0 Qa code i (i.1-1) i.2.1 i.2.2:=⟨hd1 h.1 h.2.1,hd3 h.2.1,hd2 h.2.1,h.2.2⟩
theorem bk6_0 (Qa:SV) (code:List Int) (i:Nat×(ByteArray×Int)) (m39:Nat) (line:ByteArray) (i40:Int) (hl:m39<i.1) (e:runL (F6_s0 Qa code) m39 (line,i40)=lX6_0 Qa code) (h:lI6_0 Qa code m39 line i40):∃ j:Nat×(ByteArray×Int),lE6_0 Qa code line i40 j.2.1 j.2.2 (lJ6_0 Qa code j∧j.1<i.1):=⟨(m39,(line,i40)),rfl,rfl,rfl,rfl,Imp.refl _,Imp.refl _,⟨e,h⟩,hl⟩
theorem en6_0 (Qa:SV) (code:List Int) (h:w13_.size≤900∧(0:Int)≤0):lE6_0 Qa code w13_ 0 w13_ 0 (lJ6_0 Qa code (lN6_0 Qa code)):=⟨rfl,rfl,rfl,rfl,Imp.refl _,Imp.refl _,rfl,Nat.lt_succ_self _,h⟩
def S6 (Qa:SV) (code:List Int):Spec:=⟨[.vl (sv Qa) (.l 1 eByte code)],.v (.bool (F6 Qa code)),True⟩
theorem ok6 (Qa:SV) (code:List Int):(S6 Qa code).ok Tryz.prog 6 false :=
 fnG_ok mixed (fn:=Tryz.f6) (ct:=.seqk [(0,0)] .no (.seq (.seq .no (.cond (.seq .no .no) .no)) (.seq (.reg [(1,.call 28 (S28 Qa code) ((ok28 Qa code).to false) none)]) (.seq (.reg [(3,kh29 (F28 Qa code).1 (F28 Qa code).2.1 (F28 Qa code).2.2)]) (.seq (.seq (.reg [(4,kh30f (F28 Qa code).1 (F28 Qa code).2.1 (F28 Qa code).2.2)]) (.cond (.seq .no .no) .no)) (.seq (.seq (.reg [(5,kh29 (F28 Qa code).1 (F28 Qa code).1 (F28 Qa code).2.2)]) (.cond (.seq .no .no) .no)) (.seq .no (.seq (.seqk [(3,0)] .no (.blk (.loop (ι:=Nat×(ByteArray×Int)) (fun i=>(fun (line:ByteArray) (i40:Int)=>(⟨[(3,some (.h 0 0)),(4,some (.h 1 0)),(5,some (.v (.string (F28 Qa code).2.2))),(6,some (.v (.bool (F29 (F28 Qa code).1 (F28 Qa code).2.1 (F28 Qa code).2.2)))),(7,some (.v (.string line))),(8,some (.v (vI i40)))],[(0,some (.own 0 (.l 1 eStr (F28 Qa code).1))),(1,some (.own 1 (.l 1 eStr (F28 Qa code).2.1)))],2⟩:St)) i.2.1 i.2.2) (lJ6_0 Qa code) (fun i=>i.1) (lN6_0 Qa code) (fun i=>(fun (line:ByteArray) (i40:Int)=>(.seq (.seq .no (.cond .no .no)) (.seq (.blk (.seq (.reg [(4,kh14f ((F28 Qa code).1.getD (Int.toNat i40) default))]) (.cond .no .no))) (.reg [(1,.bnd)])))) i.2.1 i.2.2)))) (.seq (.reg [(1,kh19f (F28 Qa code).1),(5,kh19f (F28 Qa code).2.1),(9,kh19f (F28 Qa code).2.1)]) (.seq (.seq .no (.blk (.seq .no (.cond (.seq .no .no) (.seq .no (.cond (.seq .no .no) (.seq .no (.cond (.seq (.reg [(5,kh12af (F28 Qa code).1 (F28 Qa code).2.1)]) .no) (.seq .no (.cond (.seq (.reg [(4,kh31f (F28 Qa code).1),(6,kh31f (F28 Qa code).2.1),(7,kh12af (F31 (F28 Qa code).1) (F31 (F28 Qa code).2.1))]) .no) .no)))))))))) (.seq .no .no))))))))))) Tryz.func6 (fun (_:True)=>kn code fun _=>ifd ((code.length:Int)>1048576) (fun h1 _=>fiB true (F6 Qa code) (condT h1 rfl)) (fun h1 _=>ai trivial (ai (Eq.refl (sv Qa)) (ai (Imp.refl (.l 1 eByte code)) (have gv2:(F28 Qa code).1.length≤16∧(F28 Qa code).2.1.length≤40∧(F28 Qa code).2.2.size≤80:=(by exact ⟨cq_len (drawMay_q _ _).1,(drawMay_q _ _).2.1.1,(drawMay_q _ _).2.2.1⟩); have gv3:∀ k:Nat,((F28 Qa code).1.getD k default).size≤900:=(by exact (drawMay_q _ _).1.2); have gv4:∀ k:Nat,((F28 Qa code).2.1.getD k default).size≤1000:=(by exact (drawMay_q _ _).2.1.2); kc29 (F28 Qa code).1 (F28 Qa code).2.1 (F28 Qa code).2.2 (by omega) (by omega) (by exact fun q=>Nat.le_trans ((by assumption:∀ k:Nat,((F28 Qa code).1.getD k default).size≤900) q) (by decide)) (by exact fun q=>Nat.le_trans ((by assumption:∀ k:Nat,((F28 Qa code).2.1.getD k default).size≤1000) q) (by decide)) (kc30 (F28 Qa code).1 (F28 Qa code).2.1 (F28 Qa code).2.2 (by omega) (by omega) (by omega) (by exact fun q=>Nat.le_trans ((by assumption:∀ k:Nat,((F28 Qa code).1.getD k default).size≤900) q) (by decide)) (by exact fun q=>Nat.le_trans ((by assumption:∀ k:Nat,((F28 Qa code).2.1.getD k default).size≤1000) q) (by decide)) (ifb (!((F29 (F28 Qa code).1 (F28 Qa code).2.1 (F28 Qa code).2.2)==(F30 (F28 Qa code).1 (F28 Qa code).2.1 (F28 Qa code).2.2))) (fun h5=>fiB false (F6 Qa code) (condF h1 (condT h5 rfl))) (fun h5=>kg29 (F29 (F28 Qa code).1 (F28 Qa code).2.1 (F28 Qa code).2.2) true (F28 Qa code).1 (F28 Qa code).1 (F28 Qa code).2.2 (fun k6=>⟨(by omega),(by omega),(by exact fun q=>Nat.le_trans ((by assumption:∀ k:Nat,((F28 Qa code).1.getD k default).size≤900) q) (by decide)),(by exact fun q=>Nat.le_trans ((by assumption:∀ k:Nat,((F28 Qa code).1.getD k default).size≤900) q) (by decide))⟩) (ifb (bif (F29 (F28 Qa code).1 (F28 Qa code).2.1 (F28 Qa code).2.2) then (!(F29 (F28 Qa code).1 (F28 Qa code).1 (F28 Qa code).2.2)) else false) (fun h7=>fiB false (F6 Qa code) (condF h1 (condF h5 (condT h7 rfl)))) (fun h7=>kn (F28 Qa code).1 fun _=>ai (en6_0 Qa code (by refine ⟨?_,?_⟩ <;> first | omega | (simp only [lens,ib] at*<;> omega) | exact (by assumption:∀ k:Nat,((F28 Qa code).1.getD k default).size≤900) _ | exact Nat.zero_le _)) (fun (i0:Nat×(ByteArray×Int)) (hi0:lJ6_0 Qa code i0)=>(fun (m0:Nat) (line:ByteArray) (i40:Int) (hh0:lH6_0 Qa code i0 m0 line i40)=>have hI0:=hh0.1; have hl0:=hh0.2.1; have _:=hh0.2.2.1; have _:=hh0.2.2.2; ifd (i40<((F28 Qa code).1.length:Int)) (fun h9 _=>ai (by omega:ib i40 (F28 Qa code).1) (kc14 ((F28 Qa code).1.getD (Int.toNat i40) default) (by exact Nat.le_trans ((by assumption:∀ k:Nat,((F28 Qa code).1.getD k default).size≤900) _) (by decide)) (ai (by (have h5:w22_.size=5:=rfl; have h6:w121_.size=4:=rfl; have h7:w122_.size=5:=rfl; have h8:w123_.size=11:=rfl; (try simp only [size_app] at *); omega):((w22_.size+(F28 Qa code).2.2.size:Nat):Int)≤9223372036854775807) (ifb ((F14 ((F28 Qa code).1.getD (Int.toNat i40) default)).toList==(w22_++(F28 Qa code).2.2).toList) (fun h10=>ai (by omega:ib i40 (F28 Qa code).1) (ai (iok (i40+1) (by omega)) (bk6_0 Qa code i0 m0 ((F28 Qa code).1.getD (Int.toNat i40) default) (i40+1) hl0 (runL_next hI0 (condT h9 (condT h10 rfl))) (by refine ⟨?_,?_,?_⟩ <;> first | omega | (simp only [lens,ib] at*<;> omega) | exact (by assumption:∀ k:Nat,((F28 Qa code).1.getD k default).size≤900) _ | exact Nat.zero_le _)))) (fun h10=>ai (iok (i40+1) (by omega)) (bk6_0 Qa code i0 m0 line (i40+1) hl0 (runL_next hI0 (condT h9 (condF h10 rfl))) (by refine ⟨?_,?_,?_⟩ <;> omega))))))) (fun h9 _=>have hD0_11:lX6_0 Qa code=Lp.done (line,i40):=runL_done hI0 (condF h9 rfl); kc19 (F28 Qa code).1 (by omega) (by exact fun q=>Nat.le_trans ((by assumption:∀ k:Nat,((F28 Qa code).1.getD k default).size≤900) q) (by decide)) (kg19 ((F19 (F28 Qa code).1)==0) true (F28 Qa code).2.1 (fun k12=>have _:=eq_of_beq k12; ⟨(by omega),(by exact fun q=>Nat.le_trans ((by assumption:∀ k:Nat,((F28 Qa code).2.1.getD k default).size≤1000) q) (by decide))⟩) (ai (fun k14:((F19 (F28 Qa code).2.1)==0)=false=>have _:=beqF k14; (fun k13:((F19 (F28 Qa code).1)==0)=true=>have _:=eq_of_beq k13; (ai (by omega:(F28 Qa code).2.1.length≤1048576) (by exact fun q=>Nat.le_trans ((by assumption:∀ k:Nat,((F28 Qa code).2.1.getD k default).size≤1000) q) (by decide):∀ k:Nat,((F28 Qa code).2.1.getD k default).size≤1048576)))) (ai (fun k16:((F19 (F28 Qa code).2.1)==0)=false=>have _:=beqF k16; (fun k15:((F19 (F28 Qa code).1)==0)=true=>have _:=eq_of_beq k15; (Imp.refl (.l 1 eStr (F28 Qa code).2.1)))) (ifb (line.toList==w13_.toList) (fun h17=>fiB (!(F29 (F28 Qa code).1 (F28 Qa code).2.1 (F28 Qa code).2.2)) (F6 Qa code) (condF h1 (condF h5 (condF h7 (finD hD0_11 (condT h17 rfl)))))) (fun h17=>ai (by (have h5:w22_.size=5:=rfl; have h6:w121_.size=4:=rfl; have h7:w122_.size=5:=rfl; have h8:w123_.size=11:=rfl; (try simp only [size_app] at *); omega):((w22_.size+(F28 Qa code).2.2.size:Nat):Int)≤9223372036854775807) (ai (by (have h5:w22_.size=5:=rfl; have h6:w121_.size=4:=rfl; have h7:w122_.size=5:=rfl; have h8:w123_.size=11:=rfl; (try simp only [size_app] at *); omega):(((w22_++(F28 Qa code).2.2).size+w121_.size:Nat):Int)≤9223372036854775807) (ifb (line.toList==((w22_++(F28 Qa code).2.2)++w121_).toList) (fun h18=>fiB ((F29 (F28 Qa code).1 (F28 Qa code).2.1 (F28 Qa code).2.2)==(bif ((F19 (F28 Qa code).1)==0) then (bif ((F19 (F28 Qa code).2.1)==0) then true else decide ((F19 (F28 Qa code).2.1)>4)) else false)) (F6 Qa code) (condF h1 (condF h5 (condF h7 (finD hD0_11 (condF h17 (condT h18 rfl))))))) (fun h18=>ai (by (have h5:w22_.size=5:=rfl; have h6:w121_.size=4:=rfl; have h7:w122_.size=5:=rfl; have h8:w123_.size=11:=rfl; (try simp only [size_app] at *); omega):((w22_.size+(F28 Qa code).2.2.size:Nat):Int)≤9223372036854775807) (ai (by (have h5:w22_.size=5:=rfl; have h6:w121_.size=4:=rfl; have h7:w122_.size=5:=rfl; have h8:w123_.size=11:=rfl; (try simp only [size_app] at *); omega):(((w22_++(F28 Qa code).2.2).size+w122_.size:Nat):Int)≤9223372036854775807) (ifb (line.toList==((w22_++(F28 Qa code).2.2)++w122_).toList) (fun h19=>kg12a (bif ((F19 (F28 Qa code).1)==0) then (bif ((F19 (F28 Qa code).2.1)==0) then true else decide ((F19 (F28 Qa code).2.1)>4)) else false) true (F28 Qa code).1 (F28 Qa code).2.1 (fiB ((F29 (F28 Qa code).1 (F28 Qa code).2.1 (F28 Qa code).2.2)==(bif (bif ((F19 (F28 Qa code).1)==0) then (bif ((F19 (F28 Qa code).2.1)==0) then true else decide ((F19 (F28 Qa code).2.1)>4)) else false) then (decide ((F28 Qa code).1=(F28 Qa code).2.1)) else false)) (F6 Qa code) (condF h1 (condF h5 (condF h7 (finD hD0_11 (condF h17 (condF h18 (condT h19 rfl))))))))) (fun h19=>ai (by (have h5:w22_.size=5:=rfl; have h6:w121_.size=4:=rfl; have h7:w122_.size=5:=rfl; have h8:w123_.size=11:=rfl; (try simp only [size_app] at *); omega):((w22_.size+(F28 Qa code).2.2.size:Nat):Int)≤9223372036854775807) (ai (by (have h5:w22_.size=5:=rfl; have h6:w121_.size=4:=rfl; have h7:w122_.size=5:=rfl; have h8:w123_.size=11:=rfl; (try simp only [size_app] at *); omega):(((w22_++(F28 Qa code).2.2).size+w123_.size:Nat):Int)≤9223372036854775807) (ifb (line.toList==((w22_++(F28 Qa code).2.2)++w123_).toList) (fun h21=>kg31 (!(F29 (F28 Qa code).1 (F28 Qa code).2.1 (F28 Qa code).2.2)) false (F28 Qa code).1 (fun k22=>(by omega)) (kg31 (!(F29 (F28 Qa code).1 (F28 Qa code).2.1 (F28 Qa code).2.2)) false (F28 Qa code).2.1 (fun k23=>(by omega)) (kg12a (!(F29 (F28 Qa code).1 (F28 Qa code).2.1 (F28 Qa code).2.2)) false (F31 (F28 Qa code).1) (F31 (F28 Qa code).2.1) (fiB (bif (!(F29 (F28 Qa code).1 (F28 Qa code).2.1 (F28 Qa code).2.2)) then true else (decide ((F31 (F28 Qa code).1)=(F31 (F28 Qa code).2.1)))) (F6 Qa code) (condF h1 (condF h5 (condF h7 (finD hD0_11 (condF h17 (condF h18 (condF h19 (condT h21 rfl)))))))))))) (fun h21=>fiB (bif (!(F29 (F28 Qa code).1 (F28 Qa code).2.1 (F28 Qa code).2.2)) then true else (bif ((F19 (F28 Qa code).1)==0) then (bif ((F19 (F28 Qa code).2.1)==0) then true else decide ((F19 (F28 Qa code).2.1)>4)) else false)) (F6 Qa code) (condF h1 (condF h5 (condF h7 (finD hD0_11 (condF h17 (condF h18 (condF h19 (condF h21 rfl)))))))))))))))))))))))) (i0.1-1) i0.2.1 i0.2.2 (un6_0 Qa code i0 hi0)))))))))))) (by kernel_rfl)
theorem fin_R {σ ρ τ:Type} (step:σ→Lp σ ρ) (R:τ→Prop) (f:ρ→τ) (g:σ→τ) (hr:∀ s r,step s=.ret r→R (f r)) (hg:∀ s,R (g s)):∀ (M:Nat) (s:σ),R ((runL step M s).fin f g)
 | 0,s=>hg s
 | M+1,s=>by
  cases h:step s with
  | next s'=>rw [runL_n _ h]; exact fin_R step R f g hr hg M s'
  | done s'=>rw [runL_d _ h]; exact hg s'
  | ret r=>rw [runL_r _ h]; exact hr s r h
theorem ret2 {σ ρ:Type} {c d:Bool} {x r:ρ} {y z:σ} (h:(bif c then (bif d then (Lp.ret x:Lp σ ρ) else .next y) else .done z)=.ret r):r=x:=by
 cases c
 ·cases h
 ·cases d
  ·cases h
  ·exact (Lp.ret.inj h).symm
theorem neat_le4 (lines:List ByteArray):0≤F58 lines∧F58 lines≤4:=by
 unfold F58
 cases decide ((lines.length:Int)>16)
 ·rw [cond_false]
  refine fin_R _ (fun x:Int=>0≤x∧x≤4) _ _ (fun s r h=>?_) (fun s=>?_) _ _
  ·have:=ret2 h; subst this; decide
  refine fin_R _ (fun x:Int=>0≤x∧x≤4) _ _ (fun s r h=>?_) (fun s=>?_) _ _
  ·have:=ret2 h; subst this; decide
  refine fin_R _ (fun x:Int=>0≤x∧x≤4) _ _ (fun s r h=>?_) (fun s=>?_) _ _
  ·have:=ret2 h; subst this; decide
  ·decide
 ·show (0:Int)≤1∧(1:Int)≤4
  decide
theorem check_neat0 (lines:List ByteArray) (h:F19 lines=0):F58 lines=0:=by
 unfold F19 at h
 cases hn:(F58 lines != 0) with
 | true=>rw [hn,cond_true] at h; rw [h] at hn; exact absurd hn (by decide)
 | false=>simpa using hn
theorem check_code (lines:List ByteArray):(bif (F19 lines==0) then true else decide (F19 lines>4))=(F58 lines==0):=by
 have h4:=neat_le4 lines
 unfold F19
 cases hn:(F58 lines != 0) with
 | true =>
  have hne:¬ F58 lines=0:=by simpa using hn
  rw [cond_true,beq_eq_false_iff_ne.2 hne,cond_false]
  exact decide_eq_false (by omega)
 | false =>
  have h0:F58 lines=0:=by simpa using hn
  rw [cond_false,h0]
  repeat' apply cond_P (P:=fun x:Int=>(bif (x==0) then true else decide (x>4))=((0:Int)==0))
  all_goals rfl
theorem fin_of {σ ρ τ:Type} {x:Lp σ ρ} {s:σ} (h:x.fin (fun _=>none) some=some s) (f:ρ→τ) (g:σ→τ):x.fin f g=g s:=by
 cases x with
 | ret r=>cases h
 | done s'=>cases h; rfl
 | next s'=>cases h; rfl
theorem foldl_last {α:Type} (p:α→Bool):∀ (xs:List α) (s:α),xs.foldl (fun s x=>bif p x then x else s) s=((xs.filter p).getLast?).getD s
 | [],s=>rfl
 | x :: xs,s=>by
  rw [List.foldl_cons,foldl_last p xs]
  cases h:p x with
  | false=>rw [List.filter_cons_of_neg (by simp [h])]; rfl
  | true =>
   rw [List.filter_cons_of_pos h,cond_true]
   cases xs.filter p with
   | nil=>rfl
   | cons y ys=>rw [List.getLast?_cons_cons]; cases hl:(y :: ys).getLast? with
    | none=>simp at hl
    | some z=>rfl
theorem fl_filter {α:Type} (p:α→Bool):∀ (xs s:List α),xs.foldl (fun s x=>bif p x then s++[x] else s) s=s++xs.filter p
 | [],s=>by simp
 | x :: xs,s=>by
  rw [List.foldl_cons,fl_filter p xs]
  cases h:p x with
  | true=>rw [List.filter_cons_of_pos h,cond_true,List.append_assoc]; rfl
  | false=>rw [List.filter_cons_of_neg (by simp [h]),cond_false]
def usrB (l:ByteArray):Bool:=bif decide ((l.size:Int)>5) then ((l.extract (Int.toNat (0:Int)) (Int.toNat (5:Int))).toList==(⟨#[117,115,101,114,32]⟩:ByteArray).toList) else false
theorem users_eq (lines:List ByteArray):F31 lines=lines.filter usrB:=by
 unfold F31
 have:=fold_loop0 lines (fun (s:List ByteArray) x=>bif usrB x then s++[x] else s) (fun s i=>(s,i)) (F31_s0 lines) (fun i s hi=>by
  simp only [F31_s0,ltD hi,cond_true,nn]
  show (bif usrB (lines.getD i default) then _ else _)=_
  cases usrB (lines.getD i default) <;> rfl) (fun s=>by simp only [F31_s0,geD,cond_false]) (fun r=>r) (fun (out,i40)=>out) []
 refine this.trans ?_
 rw [fl_filter,List.nil_append]
theorem usr_head (l:ByteArray) (hk:F47 l=true) (h:usrB l=true):((F11 l).1.getD 0 default).data.toList=[117,115,101,114]:=by
 unfold usrB at h
 cases hs:decide ((l.size:Int)>5) with
 | false=>rw [hs] at h; cases h
 | true =>
  rw [hs,cond_true,beq_ba] at h
  have h:=congrArg (fun x:ByteArray=>x.data.toList) (of_decide_eq_true h)
  have hs:=of_decide_eq_true hs
  have h5:l.data.toList.take 5=[117,115,101,114,32]:=by
   have e:(l.extract (Int.toNat (0:Int)) (Int.toNat (5:Int))).data.toList=l.data.toList.take 5:=by
    show (l.extract 0 5).data.toList=_
    rw [ByteArray.data_extract,Array.toList_extract]; simp [List.extract]
   rw [e] at h
   exact h
  rw [← kept_split l hk,splitS_mk]
  have e:l.data.toList=117 :: 115 :: 101 :: 114 :: 32 :: l.data.toList.drop 5:=by
   have:=List.take_append_drop 5 l.data.toList
   rw [h5] at this
   exact this.symm
  rw [e]
  simp [splitL,mkB]
theorem user_line {u w2 X:ByteArray} {c:List UInt8} (h:(((((⟨#[117,115,101,114]⟩:ByteArray)++(⟨#[32]⟩:ByteArray))++u)++(⟨#[32]⟩:ByteArray))++w2)=((⟨#[117,115,101,114,32]⟩:ByteArray)++u)++X) (hX:X.data.toList=32 :: c):w2.data.toList=c:=by
 have:=congrArg (fun x:ByteArray=>x.data.toList) h
 simp only [ByteArray.data_append,Array.toList_append,hX,List.append_assoc] at this
 have this:[117,115,101,114,32]++(u.data.toList++(32 :: w2.data.toList))=[117,115,101,114,32]++(u.data.toList++32 :: c):=this
 have:=List.append_cancel_left (List.append_cancel_left this)
 exact (List.cons.inj this).2
theorem neat_ext {a b:List ByteArray} (na:F58 a=0) (nb:F58 b=0) (h:F74 a b=[]):a=b :=
 sorted_ext (neat_sorted a na) (neat_sorted b nb) fun z=>by
  have hz:z ∉ F74 a b:=by rw [h]; exact List.not_mem_nil
  rw [justOne_mem] at hz
  by_cases h1:z∈a <;> by_cases h2:z∈b <;> simp_all
theorem just_self (a:List ByteArray):F74 a a=[]:=List.eq_nil_iff_forall_not_mem.2 fun z hz=>by
 rw [justOne_mem] at hz
 rcases hz with h | h <;> exact h.2 h.1
theorem cut_none:F85 (⟨#[110,111,110,101]⟩:ByteArray) 44=[(⟨#[110,111,110,101]⟩:ByteArray)]:=by kernel_rfl
theorem cut_rr:F85 (⟨#[114,111,117,116,101,44,114,117,108,101]⟩:ByteArray) 44=[(⟨#[114,111,117,116,101]⟩:ByteArray),(⟨#[114,117,108,101]⟩:ByteArray)]:=by kernel_rfl
theorem head_form {w:List ByteArray} (h:FormP w):(w.getD 0 default).data.toList≠[110,111,110,101]:=fun e=>by
 unfold FormP hostP userP portP ruleP routeP peerP natP doorP at h
 rcases h with h | h | h | h | h | h | h | h <;> exact absurd (e.symm.trans h.1) (by decide)
theorem bad_all (s x:ByteArray) (h:s.data.toList=[97,108,108]):badR s x=false:=by
 unfold badR
 rw [show s=(⟨#[97,108,108]⟩:ByteArray) from ba_ext h,beq_self_eq_true]; rfl
theorem bad_none (s x:ByteArray) (h:s.data.toList=[110,111,110,101]) (hx:x.data.toList≠[110,111,110,101]):badR s x=true:=by
 unfold badR
 rw [show s=(⟨#[110,111,110,101]⟩:ByteArray) from ba_ext h,cut_none,specHas_mem]
 have:x ∉ [(⟨#[110,111,110,101]⟩:ByteArray)]:=fun hm=>hx (by rw [List.mem_singleton.1 hm])
 rw [decide_eq_false this,beq_ba,decide_eq_false fun h=>absurd (congrArg (fun x:ByteArray=>x.data.toList) h) (by decide)]
 rfl
theorem bad_rr (s x:ByteArray) (h:s.data.toList=[114,111,117,116,101,44,114,117,108,101]) (hx:badR s x=false):x.data.toList≠[117,115,101,114]:=fun e=>by
 unfold badR at hx
 rw [show s=(⟨#[114,111,117,116,101,44,114,117,108,101]⟩:ByteArray) from ba_ext h,cut_rr,specHas_mem,show x=(⟨#[117,115,101,114]⟩:ByteArray) from ba_ext e,beq_ba,decide_eq_false (fun h=>absurd (congrArg (fun x:ByteArray=>x.data.toList) h) (by decide)),decide_eq_false (by
  intro hm
  simp only [List.mem_cons,List.not_mem_nil,or_false] at hm
  rcases hm with h | h <;> exact absurd (congrArg (fun x:ByteArray=>x.data.toList) h) (by decide))] at hx
 cases hx
theorem may_law (a b:List ByteArray) (u:ByteArray) (ha:F19 a=0) (hno:(32:UInt8) ∉ u.data.toList) (line:ByteArray) (hl:line=a.foldl (fun s x=>bif ((F14 x).toList==((⟨#[117,115,101,114,32]⟩:ByteArray)++u).toList) then x else s) (⟨#[]⟩:ByteArray)) :
  (bif (bif (F30 a b u) then (!(F30 a a u)) else false) then false else (bif (line.toList==(⟨#[]⟩:ByteArray).toList) then (!(F30 a b u)) else (bif (line.toList==(((⟨#[117,115,101,114,32]⟩:ByteArray)++u)++(⟨#[32,97,108,108]⟩:ByteArray)).toList) then ((F30 a b u)==(F58 b==0)) else (bif (line.toList==(((⟨#[117,115,101,114,32]⟩:ByteArray)++u)++(⟨#[32,110,111,110,101]⟩:ByteArray)).toList) then ((F30 a b u)==(bif (F58 b==0) then (decide (a=b)) else false)) else (bif (line.toList==(((⟨#[117,115,101,114,32]⟩:ByteArray)++u)++(⟨#[32,114,111,117,116,101,44,114,117,108,101]⟩:ByteArray)).toList) then (bif (!(F30 a b u)) then true else (decide (a.filter usrB=b.filter usrB))) else (bif (!(F30 a b u)) then true else (F58 b==0)))))))=true:=by
 have na:=check_neat0 a ha
 have hkn:=(nt_facts a na).2
 cases nb:(F58 b==0) with
 | false =>
  have hM:F30 a b u=false:=by
   unfold F30
   rw [na,show (F58 b != 0)=true by simp only [bne,nb,Bool.not_false]]
   rfl
  rw [hM]
  cases (line.toList==(⟨#[]⟩:ByteArray).toList)
  ·cases (line.toList==(((⟨#[117,115,101,114,32]⟩:ByteArray)++u)++(⟨#[32,97,108,108]⟩:ByteArray)).toList)
   ·cases (line.toList==(((⟨#[117,115,101,114,32]⟩:ByteArray)++u)++(⟨#[32,110,111,110,101]⟩:ByteArray)).toList)
    ·cases (line.toList==(((⟨#[117,115,101,114,32]⟩:ByteArray)++u)++(⟨#[32,114,111,117,116,101,44,114,117,108,101]⟩:ByteArray)).toList) <;> rfl
    ·rfl
   ·rfl
  ·rfl
 | true =>
 have nb:=eq_of_beq nb
 have hkb:=(nt_facts b nb).2
 have hM:=specMay_eq a b u na nb
 have hM':=specMay_eq a a u na na
 rw [just_self] at hM'
 have hf:a.filter (fun l=>(F14 l).toList==((⟨#[117,115,101,114,32]⟩:ByteArray)++u).toList)=a.filter (fun l=>isU u (F11 l).1):=List.filter_congr fun l hl=>key_user l u (hkn l hl) hno
 rw [foldl_last,hf] at hl
 cases hfl:a.filter (fun l=>isU u (F11 l).1) with
 | nil =>
  rw [hfl] at hM hl
  rw [hM,show line=(⟨#[]⟩:ByteArray) from hl,beq_self_eq_true]; rfl
 | cons l r =>
 have hr:r=[]:=by
  cases r with
  | nil=>rfl
  | cons l2 r =>
   exfalso
   have hn:=(neat_keys a na)
   have hs:((a.filter (fun l=>(F14 l).toList==((⟨#[117,115,101,114,32]⟩:ByteArray)++u).toList)).map F14).Nodup:=(List.filter_sublist.map _).nodup hn
   have hm:∀ x∈a.filter (fun l=>(F14 l).toList==((⟨#[117,115,101,114,32]⟩:ByteArray)++u).toList),F14 x=(⟨#[117,115,101,114,32]⟩:ByteArray)++u:=fun x hx=>by
    have:=(List.mem_filter.1 hx).2
    rw [beq_ba] at this
    exact of_decide_eq_true this
   rw [hf,hfl] at hs hm
   have e1:=hm l List.mem_cons_self
   have e2:=hm l2 (List.mem_cons_of_mem _ List.mem_cons_self)
   rw [List.map_cons,List.map_cons,e1,e2,List.nodup_cons] at hs
   exact hs.1 List.mem_cons_self
 subst hr
 rw [hfl] at hM hM' hl
 have hl:line=l:=hl
 subst hl
 have hM':F30 a a u=true:=hM'
 have hm:line∈a.filter (fun l=>isU u (F11 l).1):=by rw [hfl]; exact List.mem_cons_self
 obtain ⟨hla,hl2⟩:=List.mem_filter.1 hm
 unfold isU at hl2
 rw [Bool.and_eq_true] at hl2
 have hp:=keptP line (hkn line hla)
 have hP:=user_of hp.form (eq_of_beq hl2.1)
 have w1:(F11 line).1.getD 1 default=u:=by
  have:=hl2.2
  rw [beq_ba] at this
  exact of_decide_eq_true this
 have w0:(F11 line).1.getD 0 default=(⟨#[117,115,101,114]⟩:ByteArray):=ba_ext hP.1
 have hj:=hp.joins
 have hM:F30 a b u=!((F74 a b).any fun z=>badR ((F11 line).1.getD 2 default) ((F11 z).1.getD 0 default)):=hM
 have hl3:(F11 line).1=[(F11 line).1.getD 0 default,(F11 line).1.getD 1 default,(F11 line).1.getD 2 default]:=by
  have:=hP.2.1
  generalize (F11 line).1=w at this
  match w,this with
  | [x,y,z],_=>rfl
 rw [hl3,join3,w0,w1] at hj
 generalize (F11 line).1.getD 2 default=s at hM hj
 have hhead:∀ z∈F74 a b,F47 z=true:=fun z hz=>by
  rcases justOne_mem.1 hz with h | h
  ·exact hkn z h.1
  ·exact hkb z h.1
 rw [hM',Bool.not_true,show (bif F30 a b u then false else false)=false by cases F30 a b u <;> rfl,cond_false]
 cases e0:(line.toList==(⟨#[]⟩:ByteArray).toList) with
 | true =>
  exfalso
  rw [beq_ba] at e0
  have:=of_decide_eq_true e0
  rw [this] at hj
  have:=congrArg ByteArray.size hj
  simp only [ByteArray.size_append] at this
  have h4:(⟨#[117,115,101,114]⟩:ByteArray).size=4:=rfl
  have h5:(⟨#[]⟩:ByteArray).size=0:=rfl
  omega
 | false =>
 rw [cond_false,beq_ba,beq_ba,beq_ba]
 by_cases c1:line=(((⟨#[117,115,101,114,32]⟩:ByteArray)++u)++(⟨#[32,97,108,108]⟩:ByteArray))
 ·have hs:=user_line (hj.trans c1) (c:=[97,108,108]) rfl
  rw [decide_eq_true c1,cond_true,hM,show ((F74 a b).any fun z=>badR s ((F11 z).1.getD 0 default))=false from List.any_eq_false.2 fun z _=>by rw [bad_all s _ hs]; decide]
  rfl
 rw [decide_eq_false c1,cond_false]
 by_cases c2:line=(((⟨#[117,115,101,114,32]⟩:ByteArray)++u)++(⟨#[32,110,111,110,101]⟩:ByteArray))
 ·have hs:=user_line (hj.trans c2) (c:=[110,111,110,101]) rfl
  rw [decide_eq_true c2,cond_true]
  show (F30 a b u==decide (a=b))=true
  rw [hM]
  by_cases hab:a=b
  ·rw [← hab,just_self]; simp
  ·rw [decide_eq_false hab]
   have hne:F74 a b≠[]:=fun h=>hab (neat_ext na nb h)
   obtain ⟨z,zs,hz⟩:=List.exists_cons_of_ne_nil hne
   have hzm:z∈F74 a b:=by rw [hz]; exact List.mem_cons_self
   have:((F74 a b).any fun z=>badR s ((F11 z).1.getD 0 default))=true:=List.any_eq_true.2 ⟨z,hzm,bad_none s _ hs (head_form (keptP z (hhead z hzm)).form)⟩
   rw [this]; rfl
 rw [decide_eq_false c2,cond_false]
 by_cases c3:line=(((⟨#[117,115,101,114,32]⟩:ByteArray)++u)++(⟨#[32,114,111,117,116,101,44,114,117,108,101]⟩:ByteArray))
 ·have hs:=user_line (hj.trans c3) (c:=[114,111,117,116,101,44,114,117,108,101]) rfl
  rw [decide_eq_true c3,cond_true]
  cases hMc:F30 a b u with
  | false=>rfl
  | true =>
   rw [hMc] at hM
   have hany:((F74 a b).any fun z=>badR s ((F11 z).1.getD 0 default))=false:=by
    cases hx:((F74 a b).any fun z=>badR s ((F11 z).1.getD 0 default)) with
    | false=>rfl
    | true=>rw [hx] at hM; cases hM
   have hz:∀ z∈F74 a b,usrB z=false:=fun z hz=>by
    cases hu:usrB z with
    | false=>rfl
    | true =>
     have h1:=usr_head z (hhead z hz) hu
     have h2:=List.any_eq_false.1 hany z hz
     exact absurd h1 (bad_rr s _ hs (by simpa using h2))
   have hsame:a.filter usrB=b.filter usrB:=sorted_ext ((neat_sorted a na).filter _) ((neat_sorted b nb).filter _) fun z=>by
    rw [List.mem_filter,List.mem_filter]
    by_cases h1:z∈a <;> by_cases h2:z∈b
    ·simp [h1,h2]
    ·have:=hz z (justOne_mem.2 (.inl ⟨h1,h2⟩)); simp [h1,h2,this]
    ·have:=hz z (justOne_mem.2 (.inr ⟨h2,h1⟩)); simp [h1,h2,this]
    ·simp [h1,h2]
   rw [hsame]; simp
 rw [decide_eq_false c3,cond_false]
 cases F30 a b u <;> rfl
theorem plain_6 (Qa:SV) (code:List Int):F6 Qa code=true:=by
 obtain ⟨ha,hb,hu,hno⟩:=drawMay_q Qa code
 have hrun:=fold_loop0 ((F28 Qa code).1) (fun (s:ByteArray) x=>bif ((F14 x).toList==((⟨#[117,115,101,114,32]⟩:ByteArray)++((F28 Qa code).2.2)).toList) then x else s) (fun s i=>(s,i)) (F6_s0 Qa code) (fun i s hi=>by
  simp only [F6_s0,ltD hi,cond_true,nn]
  cases ((F14 (((F28 Qa code).1).getD i default)).toList==((⟨#[117,115,101,114,32]⟩:ByteArray)++((F28 Qa code).2.2)).toList) <;> rfl) (fun s=>by simp only [F6_s0,geD,cond_false]) (fun _=>none) some (⟨#[]⟩:ByteArray)
 unfold F6
 cases decide ((code.length:Int)>1048576) with
 | true=>rfl
 | false =>
 rw [cond_false,fin_of hrun]
 clear hrun
 generalize F28 Qa code=p at ha hb hu hno ⊢
 obtain ⟨a,b,u⟩:=p
 dsimp only at ha hb hu hno ⊢
 simp only [may_same,check_code,users_eq]
 have e1:(F19 a==0)=true:=by rw [ha.1]; rfl
 simp only [e1,cond_true,beq_self_eq_true,Bool.not_true,cond_false]
 exact may_law a b u ha.1 hno _ rfl
end Go.Proofs.YtabmhncnckahfaaGreatDoor
namespace Go.Proofs.YtabmhncnckahfaaGreatDoor
open Go Go.RowKit Go.ChangeShapes Go.WideShapes Go.ChangeAt
set_option maxRecDepth 100000
set_option linter.unusedVariables false
theorem op_5:OpD Tryz.prog 5 eByte:=OpD.byte Tryz.underlying5
theorem op_22:OpD Tryz.prog 22 (fun xs:List Int=>[.l 1 eByte xs]):=OpD.slice 1 Tryz.underlying22 op_5 (fun _=>rfl) (by kernel_rfl) (by decide)
theorem own:ownKnob Tryz.prog.godebug=none:=by kernel_rfl
theorem cfA:Tryz.prog.inPlace 6=Rows.fnConfMayRow.inPlace:=by kernel_rfl
theorem cfB:Tryz.prog.unfollowed 6=Rows.fnConfMayRow.unfollowed:=by kernel_rfl
theorem cfC:Tryz.prog.recurses 6=Rows.fnConfMayRow.recurses:=by kernel_rfl
theorem cfD:Tryz.prog.varsNamed 6=Rows.fnConfMayRow.named:=by kernel_rfl
set_option maxRecDepth 100000 in
def putC (cs:Array Value):Obj→Obj
 | .cells _ t fz=>.cells cs t fz
 | o=>o
noncomputable def laidWorld (os:Os):World :=
 let w:=World.holding Tryz.prog os ⟨#[.cells #[.string ⟨#[118,97,108,117,101,32,111,117,116,32,111,102,32,114,97,110,103,101]⟩] 193,.cells #[.string ⟨#[105,110,118,97,108,105,100,32,115,121,110,116,97,120]⟩] 193],#[],[]⟩
 { w with heap:=(((((((w.heap.modify ((Tryz.prog.globalNamed "math/bits.deBruijn32tab").getD 0) (putC #[(.int .u8 0),(.int .u8 1),(.int .u8 28),(.int .u8 2),(.int .u8 29),(.int .u8 14),(.int .u8 24),(.int .u8 3),(.int .u8 30),(.int .u8 22),(.int .u8 20),(.int .u8 15),(.int .u8 25),(.int .u8 17),(.int .u8 4),(.int .u8 8),(.int .u8 31),(.int .u8 27),(.int .u8 13),(.int .u8 23),(.int .u8 21),(.int .u8 19),(.int .u8 16),(.int .u8 7),(.int .u8 26),(.int .u8 12),(.int .u8 18),(.int .u8 6),(.int .u8 11),(.int .u8 5),(.int .u8 10),(.int .u8 9)])).modify ((Tryz.prog.globalNamed "math/bits.deBruijn64tab").getD 0) (putC #[(.int .u8 0),(.int .u8 1),(.int .u8 56),(.int .u8 2),(.int .u8 57),(.int .u8 49),(.int .u8 28),(.int .u8 3),(.int .u8 61),(.int .u8 58),(.int .u8 42),(.int .u8 50),(.int .u8 38),(.int .u8 29),(.int .u8 17),(.int .u8 4),(.int .u8 62),(.int .u8 47),(.int .u8 59),(.int .u8 36),(.int .u8 45),(.int .u8 43),(.int .u8 51),(.int .u8 22),(.int .u8 53),(.int .u8 39),(.int .u8 33),(.int .u8 30),(.int .u8 24),(.int .u8 18),(.int .u8 12),(.int .u8 5),(.int .u8 63),(.int .u8 55),(.int .u8 48),(.int .u8 27),(.int .u8 60),(.int .u8 41),(.int .u8 37),(.int .u8 16),(.int .u8 46),(.int .u8 35),(.int .u8 44),(.int .u8 21),(.int .u8 52),(.int .u8 32),(.int .u8 23),(.int .u8 11),(.int .u8 54),(.int .u8 26),(.int .u8 40),(.int .u8 15),(.int .u8 34),(.int .u8 20),(.int .u8 31),(.int .u8 10),(.int .u8 25),(.int .u8 14),(.int .u8 19),(.int .u8 9),(.int .u8 13),(.int .u8 8),(.int .u8 7),(.int .u8 6)])).modify ((Tryz.prog.globalNamed "internal/strconv.uint64pow10").getD 0) (putC #[(.int .u64 1),(.int .u64 10),(.int .u64 100),(.int .u64 1000),(.int .u64 10000),(.int .u64 100000),(.int .u64 1000000),(.int .u64 10000000),(.int .u64 100000000),(.int .u64 1000000000),(.int .u64 10000000000),(.int .u64 100000000000),(.int .u64 1000000000000),(.int .u64 10000000000000),(.int .u64 100000000000000),(.int .u64 1000000000000000),(.int .u64 10000000000000000),(.int .u64 100000000000000000),(.int .u64 1000000000000000000),(.int .u64 10000000000000000000)])).modify ((Tryz.prog.globalNamed "unicode/utf8.acceptRanges").getD 0) (putC #[(.int .u8 128),(.int .u8 191),(.int .u8 160),(.int .u8 191),(.int .u8 128),(.int .u8 159),(.int .u8 144),(.int .u8 191),(.int .u8 128),(.int .u8 143),(.int .u8 0),(.int .u8 0),(.int .u8 0),(.int .u8 0),(.int .u8 0),(.int .u8 0),(.int .u8 0),(.int .u8 0),(.int .u8 0),(.int .u8 0),(.int .u8 0),(.int .u8 0),(.int .u8 0),(.int .u8 0),(.int .u8 0),(.int .u8 0),(.int .u8 0),(.int .u8 0),(.int .u8 0),(.int .u8 0),(.int .u8 0),(.int .u8 0)])).modify ((Tryz.prog.globalNamed "strconv.ErrRange").getD 0) (putC #[.iface 191 (.pointer (some ⟨Tryz.prog.low+0,0,none⟩))])).modify ((Tryz.prog.globalNamed "strconv.ErrSyntax").getD 0) (putC #[.iface 191 (.pointer (some ⟨Tryz.prog.low+1,0,none⟩))])).modify ((Tryz.prog.globalNamed "unicode/utf8.first").getD 0) (putC ((Go.Pinned.utf8FirstZ.map fun n=>Value.int .u8 (n:Nat)).toArray))) }
theorem laid_met (os:Os):laidMet Tryz.prog Rows.fnConfMayRow.laid ((laidWorld os).forCall (fun _ _=>0) ⟨#[],#[.slice none 0 0],[]⟩).memory :=
 laidMet_of_run3 8 (by kernel_rfl) (by kernel_rfl) (by kernel_rfl)
theorem reads (os:Os) {H:Type} (enc:TypeId×Value→H):∃ places,DataW.whole enc Tryz.prog ((laidWorld os).forCall (fun _ _=>0) ⟨#[],#[.slice none 0 0],[]⟩).memory Tryz.f6.params.toList Rows.fnConfMaySpec.vars false #[.slice none 0 0].toList 8=some ([.nil],[],places) :=
 ⟨[],by kernel_rfl⟩
theorem err_laid {W:World} {l:List (String×DataW Unit)} (h:laidMet Tryz.prog l W) {n tn:String} {d:DataW Unit} (hm:(n,.iface tn d)∈l) {g:Nat} (hg:Tryz.prog.globalNamed n=some g) (ht:(Tryz.prog.globals[g]?).map (·.type)=some 94) :
  ∃ e,W.cell? ⟨g,0,none⟩=some e∧(e=.nilIface∨∃ te pe,e=.iface te pe):=by
 obtain ⟨g',t',cs,fuel,p,h1,h2,h3,h4⟩:=Lib.laidMet.reads h hm
 obtain rfl:=Option.some.inj (hg.symm.trans h1)
 obtain rfl:=Option.some.inj (ht.symm.trans h2)
 have hc:∀ i,W.cell? ⟨g,i,none⟩=cs[i]?:=fun i=>by
  unfold World.var? at h3
  rw [hg] at h3
  simp only [Option.bind_some] at h3
  split at h3
  ·rename_i c _ _ hh
   simp only [Option.some.injEq] at h3
   subst h3
   simp [World.cell?,hh]
  ·cases h3
 cases fuel with
 | zero=>simp [DataW.trod] at h4
 | succ fuel =>
  simp only [DataW.trod,Tryz.underlying94] at h4
  split at h4 <;> first
   | (cases h4; done)
   | (rename_i hcs; refine ⟨_,(hc 0).trans (by rw [← Array.getElem?_toList,hcs]; rfl),?_⟩; first | exact .inl rfl | exact .inr ⟨_,_,rfl⟩)
   | (simp at h4; done)
   | (exfalso; simp_all; done)
theorem lifted (os:Os) (started:os.Started) (H:Type) (enc:TypeId×Value→H) (F:Stop.Interp) :
  ReturnsInHanded {} Tryz.checked os 6 .any ((OpenSpec.ofChange Rows.fnConfMaySpec).preRow enc Tryz.prog Tryz.f6 Rows.fnConfMayRow.domain false Rows.fnConfMayRow.laid) (((OpenSpec.ofChange Rows.fnConfMaySpec).at F).post enc Tryz.prog Tryz.f6 false true false false):=by
 obtain ⟨places,hx⟩:=reads os enc
 refine returnsInHanded_of_row (C:=Tryz.checked) (s:=OpenSpec.ofChange Rows.fnConfMaySpec) own started (by kernel_rfl) Tryz.func6
  (witness_row_at (enc:=enc) (C:=Tryz.checked) false (laidWorld os) #[.slice none 0 0] rfl (by kernel_rfl) (by kernel_rfl) (by kernel_rfl)
   (OpenSpec.preRow_of_cond 8 hx (by kernel_rfl) (fun k hk=>by cases hk) (by kernel_rfl) (laid_met os))) ?_
 intro W base args ds gs before hval0 hW hcnd _ _ hL hsh _
 have hL':laidMet Tryz.prog Rows.fnConfMayRow.laid W:=by
  have h0:=hL
  unfold laidMetH at h0
  rw [show (Rows.fnConfMayRow.laid.filter fun x=>x.2.handleName?.isSome)=[] from by kernel_rfl] at h0
  exact h0
 have hval:∀ (j:Nat) t v,Tryz.f6.params[j]?=some t→args[j]?=some v→Value.okWide Tryz.prog W .any base t v:=hval0
 have hW':=hW
 obtain ⟨p,q,hA0,hV,rfl,hfz,hnd⟩:=hW
 have hA:DataW.TrodAll enc Tryz.prog W 0 (fun _=>true) true Tryz.f6.params.toList args.toList ds p:=hA0
 rw [Tryz.params6] at hA hval
 obtain ⟨v0,vs0,d0,ds0,p0,q0,hargs,rfl,rfl,h0,r0⟩:=trodAll_cons hA
 obtain ⟨rfl,rfl,rfl⟩:=trodAll_nil r0
 obtain rfl:args=#[v0]:=by cases args; simp_all
 obtain ⟨rfl,rfl⟩:=trodVars_none hV
 obtain ⟨fu0,t0⟩:=h0
 obtain ⟨a0,n0,c0,rfl⟩:=okWide_slice Tryz.underlying22 (hval 0 22 v0 rfl rfl)
 obtain ⟨x0,u0,us0,e0,o0,-⟩:=op_22 H enc W fu0 _ _ t0
 obtain rfl:u0=_:=(List.cons.inj e0).1.symm
 have hG:GP W:=⟨fun b hb=>by
  simp only [GBe,List.nil_append,List.cons_append,List.mem_cons,List.not_mem_nil,or_false] at hb
  rcases hb with rfl | rfl
  ·exact err_laid hL' (n:= "strconv.ErrSyntax") (by unfold Rows.fnConfMayRow; exact List.mem_cons_of_mem _ (List.mem_cons_of_mem _ (List.mem_cons_of_mem _ (List.mem_cons_of_mem _ (List.mem_cons_of_mem _ (List.mem_cons_self)))))) (show Tryz.prog.globalNamed "strconv.ErrSyntax"=some ((Tryz.prog.globalNamed "strconv.ErrSyntax").getD 0) from by kernel_rfl) (by kernel_rfl)
  ·exact err_laid hL' (n:= "strconv.ErrRange") (by unfold Rows.fnConfMayRow; exact List.mem_cons_of_mem _ (List.mem_cons_of_mem _ (List.mem_cons_of_mem _ (List.mem_cons_of_mem _ (List.mem_cons_self))))) (show Tryz.prog.globalNamed "strconv.ErrRange"=some ((Tryz.prog.globalNamed "strconv.ErrRange").getD 0) from by kernel_rfl) (by kernel_rfl),fun b hb=>by simp only [GBi,List.nil_append,List.mem_cons,List.not_mem_nil,or_false] at hb; subst hb; exact layCutM.s1_3 W hsh,fun q hq=>by
  simp only [GBt,List.nil_append,List.mem_cons,List.not_mem_nil,or_false] at hq
  subst hq
  obtain ⟨g',t',cs,fuel,p,h1,h2,h3,h4⟩:=Lib.laidMet.reads hL' (n:= "internal/strconv.uint64pow10") (by unfold Rows.fnConfMayRow; exact List.mem_cons_of_mem _ (List.mem_cons_of_mem _ (List.mem_cons_self)))
  obtain rfl:=Option.some.inj ((show Tryz.prog.globalNamed "internal/strconv.uint64pow10"=some ((Tryz.prog.globalNamed "internal/strconv.uint64pow10").getD 0) from by kernel_rfl).symm.trans h1)
  obtain rfl:=Option.some.inj ((show (Tryz.prog.globals[(Tryz.prog.globalNamed "internal/strconv.uint64pow10").getD 0]?).map (·.type)=some 195 from by kernel_rfl).symm.trans h2)
  have hc:=Lib.cells_of_tab (k:=.u64) (zs:=Lib.pow10Tab) Tryz.underlying195 Tryz.underlying151 (by kernel_rfl) (by kernel_rfl) h4
  unfold World.var? at h3
  rw [(show Tryz.prog.globalNamed "internal/strconv.uint64pow10"=some ((Tryz.prog.globalNamed "internal/strconv.uint64pow10").getD 0) from by kernel_rfl)] at h3
  simp only [Option.bind_some] at h3
  split at h3
  ·rename_i c T fz hh
   simp only [Option.some.injEq] at h3
   subst h3
   exact ⟨T,fz,hh.trans (by congr 1; congr 1; exact Array.ext' (by simpa using hc))⟩
  ·cases h3⟩
 have hc:=law_call (W:=W) (vs:=[.slice a0 n0 c0]) (ok6 (⟨a0,n0,c0⟩:SV) x0) trivial (x:=.bool (F6 (⟨a0,n0,c0⟩:SV) x0)) hG ⟨_,_,[],[],rfl,⟨⟨rfl,o0⟩,rfl⟩,⟨rfl,rfl⟩,rfl,List.nodup_nil⟩ rfl rfl
 rw [plain_6 (⟨a0,n0,c0⟩:SV) x0] at hc
 refine hc.mono fun e W' ⟨he,hb⟩=>?_
 subst he
 exact ⟨_,rfl,law_post rfl hW' hb rfl Tryz.underlying4 rfl rfl rfl laid (by decide +kernel)⟩
theorem said_FnConfMay:Rows.FnConfMaySaid :=
 OpenClaim.holds_of_cond 6 Tryz.f6 rfl rfl rfl rfl rfl rfl rfl ⟨rfl,rfl,rfl,rfl,rfl⟩ rfl rfl rfl rfl rfl (by kernel_rfl) Tryz.func6 (by
   show joinedFacts Tryz.prog 6 Tryz.f6 (OpenSpec.ofChange Rows.fnConfMaySpec).bare Rows.fnConfMayRow=true
   simp only [joinedFacts,laid,cfMaps,cfKeys,cfLifts,cfHeard,cfEnter,cfMake,cfA,cfB,cfC,cfD,Bool.and_true]
   kernel_rfl)
  (of_decide_eq_true (by kernel_rfl)) (by unfold Func.isWrapper; first | (rw [if_pos (by decide +kernel)]; kernel_rfl) | (rw [if_neg (by decide +kernel)]; exact ⟨rfl,rfl⟩))
  (fun os started H enc _ F=>by rw [OpenClaim.pre_eq_preRow]; exact lifted os started H enc F)
theorem plainArgs (f:FuncId) (fn:Func) (hf:Tryz.pinned.checked.prog.funcNamed "loop.example/tern/laws.FnConfMay"=some f) (hfn:Tryz.pinned.checked.prog.funcs[f]?=some fn) :
  true=Tryz.pinned.checked.prog.looks []∧∀ (j:Nat) t,fn.params[j]?=some t→Tryz.pinned.checked.prog.wantsStandIn t=false:=by
 obtain rfl:f=6:=Option.some.inj ((show Tryz.prog.funcNamed "loop.example/tern/laws.FnConfMay"=some 6 by kernel_rfl).symm.trans hf) |>.symm
 obtain rfl:fn=Tryz.f6:=(Option.some.inj (Tryz.func6.symm.trans hfn)).symm
 refine ⟨by kernel_rfl,fun j t ht=>?_⟩
 rw [Tryz.params6] at ht
 have hm:=Array.mem_of_getElem? ht
 simp only [List.mem_toArray,List.mem_cons,List.not_mem_nil,or_false] at hm
 first | (obtain rfl:=hm; exact (show Tryz.prog.wantsStandIn 22=false by kernel_rfl))
theorem card_wf:Rows.fnConfMayRow.wfByText (OpenSpec.ofChange Rows.fnConfMaySpec)=true:=by kernel_rfl
theorem card_main:Tryz.prog.mainIs=some (Rows.fnConfMayCard.stood.harness.1,Rows.fnConfMayCard.stood.harness.2.toList):=by kernel_rfl
theorem card_goes:false=Rows.fnConfMayRow.goesBy Tryz.prog:=by kernel_rfl
theorem proved_FnConfMay:Rows.FnConfMayCardSaid :=
 Claim7.holds_tied_plain_at .later [] _ _ _ _ said_FnConfMay (fun _ h=>by cases h) card_wf (fun _ h=>by cases h) fnConfMay_row_tie rfl ⟨rfl,rfl⟩ card_main rfl plainArgs card_goes
#print axioms proved_FnConfMay
end Go.Proofs.YtabmhncnckahfaaGreatDoor
