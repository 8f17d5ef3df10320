/- Texts put together: VD3, PJ1, PJ2, PJ3, VI1, PI1, VI2, PI2, C23; then what leads to it. -/
import Derived.Test.YtmiolofjlfnohaaRows
import Derived.Test.YtmiolofjlfnohaaZC23E
namespace Go.Proofs.Ytmiolofjlfnohaa
open Go.RowKit
set_option maxRecDepth 100000
set_option linter.unusedVariables false
set_option linter.unusedSimpArgs false
def F30 (codeX : SV) (code : List Int) : LabNet × List Int × List Int :=
  (((F72 (⟨(F36 codeX code).1.b, (F36 codeX code).1.p⟩ : l71Rd)).1), (F60 (⟨(F36 codeX code).1.b, (F72 (⟨(F36 codeX code).1.b, (F36 codeX code).1.p⟩ : l71Rd)).2⟩ : l71Rd) ((F72 (⟨(F36 codeX code).1.b, (F36 codeX code).1.p⟩ : l71Rd)).1)).1, (wayOf ((F72 (⟨(F36 codeX code).1.b, (F36 codeX code).1.p⟩ : l71Rd)).1) (((F60 (⟨(F36 codeX code).1.b, (F72 (⟨(F36 codeX code).1.b, (F36 codeX code).1.p⟩ : l71Rd)).2⟩ : l71Rd) ((F72 (⟨(F36 codeX code).1.b, (F36 codeX code).1.p⟩ : l71Rd)).1)).1).getD (Int.toNat ((((F60 (⟨(F36 codeX code).1.b, (F72 (⟨(F36 codeX code).1.b, (F36 codeX code).1.p⟩ : l71Rd)).2⟩ : l71Rd) ((F72 (⟨(F36 codeX code).1.b, (F36 codeX code).1.p⟩ : l71Rd)).1)).1).length : Int) - 1)) default) ((F39 (⟨(F36 codeX code).1.b, (F60 (⟨(F36 codeX code).1.b, (F72 (⟨(F36 codeX code).1.b, (F36 codeX code).1.p⟩ : l71Rd)).2⟩ : l71Rd) ((F72 (⟨(F36 codeX code).1.b, (F36 codeX code).1.p⟩ : l71Rd)).1)).2⟩ : l71Rd) ((((F72 (⟨(F36 codeX code).1.b, (F36 codeX code).1.p⟩ : l71Rd)).1).Boxes).length : Int)).1) (-1)))
def S30 (codeX : SV) (code : List Int) : Spec := ⟨[.vl (sv codeX) (.l 1 eByte code)], .tu [.ag [.ow (.l 2 eLabLink (((F30 codeX code).1).Links)), .ow (.l 2 eLabBox (((F30 codeX code).1).Boxes))], .ow (.l 1 eInt ((F30 codeX code).2.1)), .ow (.l 1 eInt ((F30 codeX code).2.2))], True⟩
theorem ok30 (codeX : SV) (code : List Int) : (S30 codeX code).ok Try.prog 30 :=
  fnG_ok mixed (fn := Try.f30) (ct := .seqk [(0, 0)] (.no) (.seqg 10 0 1000001 (sv ((F36 codeX code).2)) (.l 1 eByte ((F36 codeX code).1.b)) (.reg [(1, .call 36 (S36 codeX code) (ok36 codeX code) none)]) (.seq (.reg [(1, .call 72 (S72 ((F36 codeX code).2) 1000001 (⟨(F36 codeX code).1.b, (F36 codeX code).1.p⟩ : l71Rd)) (ok72 ((F36 codeX code).2) 1000001 (⟨(F36 codeX code).1.b, (F36 codeX code).1.p⟩ : l71Rd)) none)]) (.seq (.reg [(2, .call 60 (S60 ((F36 codeX code).2) 1000001 (⟨(F36 codeX code).1.b, (F72 (⟨(F36 codeX code).1.b, (F36 codeX code).1.p⟩ : l71Rd)).2⟩ : l71Rd) ((F72 (⟨(F36 codeX code).1.b, (F36 codeX code).1.p⟩ : l71Rd)).1)) (ok60 ((F36 codeX code).2) 1000001 (⟨(F36 codeX code).1.b, (F72 (⟨(F36 codeX code).1.b, (F36 codeX code).1.p⟩ : l71Rd)).2⟩ : l71Rd) ((F72 (⟨(F36 codeX code).1.b, (F36 codeX code).1.p⟩ : l71Rd)).1)) none)]) (.seq (.reg [(4, .bnd), (11, .call 39 (S39 ((F36 codeX code).2) 1000001 (⟨(F36 codeX code).1.b, (F60 (⟨(F36 codeX code).1.b, (F72 (⟨(F36 codeX code).1.b, (F36 codeX code).1.p⟩ : l71Rd)).2⟩ : l71Rd) ((F72 (⟨(F36 codeX code).1.b, (F36 codeX code).1.p⟩ : l71Rd)).1)).2⟩ : l71Rd) ((((F72 (⟨(F36 codeX code).1.b, (F36 codeX code).1.p⟩ : l71Rd)).1).Boxes).length : Int)) (ok39 ((F36 codeX code).2) 1000001 (⟨(F36 codeX code).1.b, (F60 (⟨(F36 codeX code).1.b, (F72 (⟨(F36 codeX code).1.b, (F36 codeX code).1.p⟩ : l71Rd)).2⟩ : l71Rd) ((F72 (⟨(F36 codeX code).1.b, (F36 codeX code).1.p⟩ : l71Rd)).1)).2⟩ : l71Rd) ((((F72 (⟨(F36 codeX code).1.b, (F36 codeX code).1.p⟩ : l71Rd)).1).Boxes).length : Int)) none), (12, .call 44 (S44 (wayOf ((F72 (⟨(F36 codeX code).1.b, (F36 codeX code).1.p⟩ : l71Rd)).1) (((F60 (⟨(F36 codeX code).1.b, (F72 (⟨(F36 codeX code).1.b, (F36 codeX code).1.p⟩ : l71Rd)).2⟩ : l71Rd) ((F72 (⟨(F36 codeX code).1.b, (F36 codeX code).1.p⟩ : l71Rd)).1)).1).getD (Int.toNat ((((F60 (⟨(F36 codeX code).1.b, (F72 (⟨(F36 codeX code).1.b, (F36 codeX code).1.p⟩ : l71Rd)).2⟩ : l71Rd) ((F72 (⟨(F36 codeX code).1.b, (F36 codeX code).1.p⟩ : l71Rd)).1)).1).length : Int) - 1)) default) ((F39 (⟨(F36 codeX code).1.b, (F60 (⟨(F36 codeX code).1.b, (F72 (⟨(F36 codeX code).1.b, (F36 codeX code).1.p⟩ : l71Rd)).2⟩ : l71Rd) ((F72 (⟨(F36 codeX code).1.b, (F36 codeX code).1.p⟩ : l71Rd)).1)).2⟩ : l71Rd) ((((F72 (⟨(F36 codeX code).1.b, (F36 codeX code).1.p⟩ : l71Rd)).1).Boxes).length : Int)).1) (-1)) ((F72 (⟨(F36 codeX code).1.b, (F36 codeX code).1.p⟩ : l71Rd)).1) (((F60 (⟨(F36 codeX code).1.b, (F72 (⟨(F36 codeX code).1.b, (F36 codeX code).1.p⟩ : l71Rd)).2⟩ : l71Rd) ((F72 (⟨(F36 codeX code).1.b, (F36 codeX code).1.p⟩ : l71Rd)).1)).1).getD (Int.toNat ((((F60 (⟨(F36 codeX code).1.b, (F72 (⟨(F36 codeX code).1.b, (F36 codeX code).1.p⟩ : l71Rd)).2⟩ : l71Rd) ((F72 (⟨(F36 codeX code).1.b, (F36 codeX code).1.p⟩ : l71Rd)).1)).1).length : Int) - 1)) default) ((F39 (⟨(F36 codeX code).1.b, (F60 (⟨(F36 codeX code).1.b, (F72 (⟨(F36 codeX code).1.b, (F36 codeX code).1.p⟩ : l71Rd)).2⟩ : l71Rd) ((F72 (⟨(F36 codeX code).1.b, (F36 codeX code).1.p⟩ : l71Rd)).1)).2⟩ : l71Rd) ((((F72 (⟨(F36 codeX code).1.b, (F36 codeX code).1.p⟩ : l71Rd)).1).Boxes).length : Int)).1) (-1)) (oa44 ((F72 (⟨(F36 codeX code).1.b, (F36 codeX code).1.p⟩ : l71Rd)).1) (((F60 (⟨(F36 codeX code).1.b, (F72 (⟨(F36 codeX code).1.b, (F36 codeX code).1.p⟩ : l71Rd)).2⟩ : l71Rd) ((F72 (⟨(F36 codeX code).1.b, (F36 codeX code).1.p⟩ : l71Rd)).1)).1).getD (Int.toNat ((((F60 (⟨(F36 codeX code).1.b, (F72 (⟨(F36 codeX code).1.b, (F36 codeX code).1.p⟩ : l71Rd)).2⟩ : l71Rd) ((F72 (⟨(F36 codeX code).1.b, (F36 codeX code).1.p⟩ : l71Rd)).1)).1).length : Int) - 1)) default) ((F39 (⟨(F36 codeX code).1.b, (F60 (⟨(F36 codeX code).1.b, (F72 (⟨(F36 codeX code).1.b, (F36 codeX code).1.p⟩ : l71Rd)).2⟩ : l71Rd) ((F72 (⟨(F36 codeX code).1.b, (F36 codeX code).1.p⟩ : l71Rd)).1)).2⟩ : l71Rd) ((((F72 (⟨(F36 codeX code).1.b, (F36 codeX code).1.p⟩ : l71Rd)).1).Boxes).length : Int)).1) (-1)) none)]) (.seq (.no) (.no))))))) Try.func30 (fun (_ : True) => fun (_ : code.length ≤ 9223372036854775807) => ai (trivial) (ai ((Eq.refl (sv codeX))) (ai ((Imp.refl (.l 1 eByte code))) ((fun gv1 : ((F36 codeX code)).1.b.length ≤ 2000 ∧ ((F36 codeX code)).1.p = 0 => ai (Eq.refl (sv ((F36 codeX code).2))) (ai (gd36 codeX code) (ai ((ai ((by omega : 0 ≤ ((F36 codeX code).1.p))) (ai ((by omega : ((F36 codeX code).1.p) ≤ 800000000)) ((by omega : ((F36 codeX code).1.b).length ≤ 2000))))) (ai ((Eq.refl (sv ((F36 codeX code).2)))) (ai ((Imp.refl (.l 1 eByte ((F36 codeX code).1.b)))) (ai ((Imps.refl [.v (vI ((F36 codeX code).1.p))])) ((fun gv2 : NetOk ((F72 (⟨(F36 codeX code).1.b, (F36 codeX code).1.p⟩ : l71Rd))).1 => (fun gv3 : 1 ≤ ((F72 (⟨(F36 codeX code).1.b, (F36 codeX code).1.p⟩ : l71Rd))).1.Boxes.length ∧ ((F72 (⟨(F36 codeX code).1.b, (F36 codeX code).1.p⟩ : l71Rd))).1.Boxes.length ≤ 8 ∧ ((F36 codeX code).1.p) ≤ ((F72 (⟨(F36 codeX code).1.b, (F36 codeX code).1.p⟩ : l71Rd))).2 ∧ ((F72 (⟨(F36 codeX code).1.b, (F36 codeX code).1.p⟩ : l71Rd))).2 ≤ ((F36 codeX code).1.p) + 50 => ai ((ai ((by omega : 0 ≤ ((F72 (⟨(F36 codeX code).1.b, (F36 codeX code).1.p⟩ : l71Rd)).2))) (ai ((by omega : ((F72 (⟨(F36 codeX code).1.b, (F36 codeX code).1.p⟩ : l71Rd)).2) ≤ 900000000)) (ai ((by omega : ((F36 codeX code).1.b).length ≤ 2000)) ((by omega : ((F72 (⟨(F36 codeX code).1.b, (F36 codeX code).1.p⟩ : l71Rd)).1).Boxes.length ≤ 8)))))) (ai ((Eq.refl (sv ((F36 codeX code).2)))) (ai ((Imp.refl (.l 1 eByte ((F36 codeX code).1.b)))) (ai ((Imps.refl [.v (vI ((F72 (⟨(F36 codeX code).1.b, (F36 codeX code).1.p⟩ : l71Rd)).2))])) (ai ((Imps.refl (eLabNet ((F72 (⟨(F36 codeX code).1.b, (F36 codeX code).1.p⟩ : l71Rd)).1)))) ((fun gv4 : ((F72 (⟨(F36 codeX code).1.b, (F36 codeX code).1.p⟩ : l71Rd)).2) ≤ ((F60 (⟨(F36 codeX code).1.b, (F72 (⟨(F36 codeX code).1.b, (F36 codeX code).1.p⟩ : l71Rd)).2⟩ : l71Rd) ((F72 (⟨(F36 codeX code).1.b, (F36 codeX code).1.p⟩ : l71Rd)).1))).2 ∧ ((F60 (⟨(F36 codeX code).1.b, (F72 (⟨(F36 codeX code).1.b, (F36 codeX code).1.p⟩ : l71Rd)).2⟩ : l71Rd) ((F72 (⟨(F36 codeX code).1.b, (F36 codeX code).1.p⟩ : l71Rd)).1))).2 ≤ ((F72 (⟨(F36 codeX code).1.b, (F36 codeX code).1.p⟩ : l71Rd)).2) + 10 ∧ 1 ≤ ((F60 (⟨(F36 codeX code).1.b, (F72 (⟨(F36 codeX code).1.b, (F36 codeX code).1.p⟩ : l71Rd)).2⟩ : l71Rd) ((F72 (⟨(F36 codeX code).1.b, (F36 codeX code).1.p⟩ : l71Rd)).1))).1.length ∧ ((F60 (⟨(F36 codeX code).1.b, (F72 (⟨(F36 codeX code).1.b, (F36 codeX code).1.p⟩ : l71Rd)).2⟩ : l71Rd) ((F72 (⟨(F36 codeX code).1.b, (F36 codeX code).1.p⟩ : l71Rd)).1))).1.length ≤ 8 ∧ 0 ≤ ((F60 (⟨(F36 codeX code).1.b, (F72 (⟨(F36 codeX code).1.b, (F36 codeX code).1.p⟩ : l71Rd)).2⟩ : l71Rd) ((F72 (⟨(F36 codeX code).1.b, (F36 codeX code).1.p⟩ : l71Rd)).1))).1.getD (Int.toNat ((((F60 (⟨(F36 codeX code).1.b, (F72 (⟨(F36 codeX code).1.b, (F36 codeX code).1.p⟩ : l71Rd)).2⟩ : l71Rd) ((F72 (⟨(F36 codeX code).1.b, (F36 codeX code).1.p⟩ : l71Rd)).1))).1.length : Int) - 1)) default ∧ ((F60 (⟨(F36 codeX code).1.b, (F72 (⟨(F36 codeX code).1.b, (F36 codeX code).1.p⟩ : l71Rd)).2⟩ : l71Rd) ((F72 (⟨(F36 codeX code).1.b, (F36 codeX code).1.p⟩ : l71Rd)).1))).1.getD (Int.toNat ((((F60 (⟨(F36 codeX code).1.b, (F72 (⟨(F36 codeX code).1.b, (F36 codeX code).1.p⟩ : l71Rd)).2⟩ : l71Rd) ((F72 (⟨(F36 codeX code).1.b, (F36 codeX code).1.p⟩ : l71Rd)).1))).1.length : Int) - 1)) default < (((F72 (⟨(F36 codeX code).1.b, (F36 codeX code).1.p⟩ : l71Rd)).1).Boxes.length : Int) => ai ((by unfold i64ok; omega : i64ok ((((F60 (⟨(F36 codeX code).1.b, (F72 (⟨(F36 codeX code).1.b, (F36 codeX code).1.p⟩ : l71Rd)).2⟩ : l71Rd) ((F72 (⟨(F36 codeX code).1.b, (F36 codeX code).1.p⟩ : l71Rd)).1)).1).length : Int) - 1))) (ai ((by omega : 0 ≤ ((((F60 (⟨(F36 codeX code).1.b, (F72 (⟨(F36 codeX code).1.b, (F36 codeX code).1.p⟩ : l71Rd)).2⟩ : l71Rd) ((F72 (⟨(F36 codeX code).1.b, (F36 codeX code).1.p⟩ : l71Rd)).1)).1).length : Int) - 1) ∧ ((((F60 (⟨(F36 codeX code).1.b, (F72 (⟨(F36 codeX code).1.b, (F36 codeX code).1.p⟩ : l71Rd)).2⟩ : l71Rd) ((F72 (⟨(F36 codeX code).1.b, (F36 codeX code).1.p⟩ : l71Rd)).1)).1).length : Int) - 1) < (((F60 (⟨(F36 codeX code).1.b, (F72 (⟨(F36 codeX code).1.b, (F36 codeX code).1.p⟩ : l71Rd)).2⟩ : l71Rd) ((F72 (⟨(F36 codeX code).1.b, (F36 codeX code).1.p⟩ : l71Rd)).1)).1).length : Int))) (ai ((ai ((by omega : 0 ≤ ((F60 (⟨(F36 codeX code).1.b, (F72 (⟨(F36 codeX code).1.b, (F36 codeX code).1.p⟩ : l71Rd)).2⟩ : l71Rd) ((F72 (⟨(F36 codeX code).1.b, (F36 codeX code).1.p⟩ : l71Rd)).1)).2))) (ai ((by omega : ((F60 (⟨(F36 codeX code).1.b, (F72 (⟨(F36 codeX code).1.b, (F36 codeX code).1.p⟩ : l71Rd)).2⟩ : l71Rd) ((F72 (⟨(F36 codeX code).1.b, (F36 codeX code).1.p⟩ : l71Rd)).1)).2) ≤ 1000000000)) ((by omega : ((F36 codeX code).1.b).length ≤ 2000))))) (ai ((Eq.refl (sv ((F36 codeX code).2)))) (ai ((Imp.refl (.l 1 eByte ((F36 codeX code).1.b)))) (ai ((Imps.refl [.v (vI ((F60 (⟨(F36 codeX code).1.b, (F72 (⟨(F36 codeX code).1.b, (F36 codeX code).1.p⟩ : l71Rd)).2⟩ : l71Rd) ((F72 (⟨(F36 codeX code).1.b, (F36 codeX code).1.p⟩ : l71Rd)).1)).2))])) (ai ((Imp.refl (.v (vI ((((F72 (⟨(F36 codeX code).1.b, (F36 codeX code).1.p⟩ : l71Rd)).1).Boxes).length : Int))))) ((fun gv5 : 0 ≤ ((F39 (⟨(F36 codeX code).1.b, (F60 (⟨(F36 codeX code).1.b, (F72 (⟨(F36 codeX code).1.b, (F36 codeX code).1.p⟩ : l71Rd)).2⟩ : l71Rd) ((F72 (⟨(F36 codeX code).1.b, (F36 codeX code).1.p⟩ : l71Rd)).1)).2⟩ : l71Rd) ((((F72 (⟨(F36 codeX code).1.b, (F36 codeX code).1.p⟩ : l71Rd)).1).Boxes).length : Int))).1 ∧ (1 ≤ ((((F72 (⟨(F36 codeX code).1.b, (F36 codeX code).1.p⟩ : l71Rd)).1).Boxes).length : Int) → ((F39 (⟨(F36 codeX code).1.b, (F60 (⟨(F36 codeX code).1.b, (F72 (⟨(F36 codeX code).1.b, (F36 codeX code).1.p⟩ : l71Rd)).2⟩ : l71Rd) ((F72 (⟨(F36 codeX code).1.b, (F36 codeX code).1.p⟩ : l71Rd)).1)).2⟩ : l71Rd) ((((F72 (⟨(F36 codeX code).1.b, (F36 codeX code).1.p⟩ : l71Rd)).1).Boxes).length : Int))).1 < ((((F72 (⟨(F36 codeX code).1.b, (F36 codeX code).1.p⟩ : l71Rd)).1).Boxes).length : Int)) ∧ ((F39 (⟨(F36 codeX code).1.b, (F60 (⟨(F36 codeX code).1.b, (F72 (⟨(F36 codeX code).1.b, (F36 codeX code).1.p⟩ : l71Rd)).2⟩ : l71Rd) ((F72 (⟨(F36 codeX code).1.b, (F36 codeX code).1.p⟩ : l71Rd)).1)).2⟩ : l71Rd) ((((F72 (⟨(F36 codeX code).1.b, (F36 codeX code).1.p⟩ : l71Rd)).1).Boxes).length : Int))).2 = ((F60 (⟨(F36 codeX code).1.b, (F72 (⟨(F36 codeX code).1.b, (F36 codeX code).1.p⟩ : l71Rd)).2⟩ : l71Rd) ((F72 (⟨(F36 codeX code).1.b, (F36 codeX code).1.p⟩ : l71Rd)).1)).2) + 1 => ai ((ai ((by first | assumption | exact NetOk.frame (by assumption) : FrameOk ((F72 (⟨(F36 codeX code).1.b, (F36 codeX code).1.p⟩ : l71Rd)).1))) (ai ((by omega : ((F72 (⟨(F36 codeX code).1.b, (F36 codeX code).1.p⟩ : l71Rd)).1).Boxes.length ≤ 8)) (ai ((by omega : 0 ≤ (((F60 (⟨(F36 codeX code).1.b, (F72 (⟨(F36 codeX code).1.b, (F36 codeX code).1.p⟩ : l71Rd)).2⟩ : l71Rd) ((F72 (⟨(F36 codeX code).1.b, (F36 codeX code).1.p⟩ : l71Rd)).1)).1).getD (Int.toNat ((((F60 (⟨(F36 codeX code).1.b, (F72 (⟨(F36 codeX code).1.b, (F36 codeX code).1.p⟩ : l71Rd)).2⟩ : l71Rd) ((F72 (⟨(F36 codeX code).1.b, (F36 codeX code).1.p⟩ : l71Rd)).1)).1).length : Int) - 1)) default))) (ai ((by omega : (((F60 (⟨(F36 codeX code).1.b, (F72 (⟨(F36 codeX code).1.b, (F36 codeX code).1.p⟩ : l71Rd)).2⟩ : l71Rd) ((F72 (⟨(F36 codeX code).1.b, (F36 codeX code).1.p⟩ : l71Rd)).1)).1).getD (Int.toNat ((((F60 (⟨(F36 codeX code).1.b, (F72 (⟨(F36 codeX code).1.b, (F36 codeX code).1.p⟩ : l71Rd)).2⟩ : l71Rd) ((F72 (⟨(F36 codeX code).1.b, (F36 codeX code).1.p⟩ : l71Rd)).1)).1).length : Int) - 1)) default) < (((F72 (⟨(F36 codeX code).1.b, (F36 codeX code).1.p⟩ : l71Rd)).1).Boxes.length : Int))) (ai ((by omega : 0 ≤ ((F39 (⟨(F36 codeX code).1.b, (F60 (⟨(F36 codeX code).1.b, (F72 (⟨(F36 codeX code).1.b, (F36 codeX code).1.p⟩ : l71Rd)).2⟩ : l71Rd) ((F72 (⟨(F36 codeX code).1.b, (F36 codeX code).1.p⟩ : l71Rd)).1)).2⟩ : l71Rd) ((((F72 (⟨(F36 codeX code).1.b, (F36 codeX code).1.p⟩ : l71Rd)).1).Boxes).length : Int)).1))) ((by omega : ((F39 (⟨(F36 codeX code).1.b, (F60 (⟨(F36 codeX code).1.b, (F72 (⟨(F36 codeX code).1.b, (F36 codeX code).1.p⟩ : l71Rd)).2⟩ : l71Rd) ((F72 (⟨(F36 codeX code).1.b, (F36 codeX code).1.p⟩ : l71Rd)).1)).2⟩ : l71Rd) ((((F72 (⟨(F36 codeX code).1.b, (F36 codeX code).1.p⟩ : l71Rd)).1).Boxes).length : Int)).1) < (((F72 (⟨(F36 codeX code).1.b, (F36 codeX code).1.p⟩ : l71Rd)).1).Boxes.length : Int))))))))) (ai ((Imps.refl (eLabNet ((F72 (⟨(F36 codeX code).1.b, (F36 codeX code).1.p⟩ : l71Rd)).1)))) (ai ((Imp.refl (.v (vI (((F60 (⟨(F36 codeX code).1.b, (F72 (⟨(F36 codeX code).1.b, (F36 codeX code).1.p⟩ : l71Rd)).2⟩ : l71Rd) ((F72 (⟨(F36 codeX code).1.b, (F36 codeX code).1.p⟩ : l71Rd)).1)).1).getD (Int.toNat ((((F60 (⟨(F36 codeX code).1.b, (F72 (⟨(F36 codeX code).1.b, (F36 codeX code).1.p⟩ : l71Rd)).2⟩ : l71Rd) ((F72 (⟨(F36 codeX code).1.b, (F36 codeX code).1.p⟩ : l71Rd)).1)).1).length : Int) - 1)) default))))) (ai ((Imp.refl (.v (vI ((F39 (⟨(F36 codeX code).1.b, (F60 (⟨(F36 codeX code).1.b, (F72 (⟨(F36 codeX code).1.b, (F36 codeX code).1.p⟩ : l71Rd)).2⟩ : l71Rd) ((F72 (⟨(F36 codeX code).1.b, (F36 codeX code).1.p⟩ : l71Rd)).1)).2⟩ : l71Rd) ((((F72 (⟨(F36 codeX code).1.b, (F36 codeX code).1.p⟩ : l71Rd)).1).Boxes).length : Int)).1))))) (ai ((Imp.refl (.v (vI (-1))))) ((fun hF : (((F72 (⟨(F36 codeX code).1.b, (F36 codeX code).1.p⟩ : l71Rd)).1), (F60 (⟨(F36 codeX code).1.b, (F72 (⟨(F36 codeX code).1.b, (F36 codeX code).1.p⟩ : l71Rd)).2⟩ : l71Rd) ((F72 (⟨(F36 codeX code).1.b, (F36 codeX code).1.p⟩ : l71Rd)).1)).1, (wayOf ((F72 (⟨(F36 codeX code).1.b, (F36 codeX code).1.p⟩ : l71Rd)).1) (((F60 (⟨(F36 codeX code).1.b, (F72 (⟨(F36 codeX code).1.b, (F36 codeX code).1.p⟩ : l71Rd)).2⟩ : l71Rd) ((F72 (⟨(F36 codeX code).1.b, (F36 codeX code).1.p⟩ : l71Rd)).1)).1).getD (Int.toNat ((((F60 (⟨(F36 codeX code).1.b, (F72 (⟨(F36 codeX code).1.b, (F36 codeX code).1.p⟩ : l71Rd)).2⟩ : l71Rd) ((F72 (⟨(F36 codeX code).1.b, (F36 codeX code).1.p⟩ : l71Rd)).1)).1).length : Int) - 1)) default) ((F39 (⟨(F36 codeX code).1.b, (F60 (⟨(F36 codeX code).1.b, (F72 (⟨(F36 codeX code).1.b, (F36 codeX code).1.p⟩ : l71Rd)).2⟩ : l71Rd) ((F72 (⟨(F36 codeX code).1.b, (F36 codeX code).1.p⟩ : l71Rd)).1)).2⟩ : l71Rd) ((((F72 (⟨(F36 codeX code).1.b, (F36 codeX code).1.p⟩ : l71Rd)).1).Boxes).length : Int)).1) (-1))) = (F30 codeX code) => ai (Imp.of_eq (congrArg (fun r : LabNet × List Int × List Int => Dat.l 2 eLabLink r.1.Links) hF)) (ai (Imp.of_eq (congrArg (fun r : LabNet × List Int × List Int => Dat.l 2 eLabBox r.1.Boxes) hF)) (ai (Imp.of_eq (congrArg (fun r : LabNet × List Int × List Int => Dat.l 1 eInt r.2.1) hF)) (ai (Imp.of_eq (congrArg (fun r : LabNet × List Int × List Int => Dat.l 1 eInt r.2.2) hF)) (trivial))))) (rfl))))))) (pick_in (⟨(F36 codeX code).1.b, (F60 (⟨(F36 codeX code).1.b, (F72 (⟨(F36 codeX code).1.b, (F36 codeX code).1.p⟩ : l71Rd)).2⟩ : l71Rd) ((F72 (⟨(F36 codeX code).1.b, (F36 codeX code).1.p⟩ : l71Rd)).1)).2⟩ : l71Rd) ((((F72 (⟨(F36 codeX code).1.b, (F36 codeX code).1.p⟩ : l71Rd)).1).Boxes).length : Int) (by omega : 0 ≤ ((F60 (⟨(F36 codeX code).1.b, (F72 (⟨(F36 codeX code).1.b, (F36 codeX code).1.p⟩ : l71Rd)).2⟩ : l71Rd) ((F72 (⟨(F36 codeX code).1.b, (F36 codeX code).1.p⟩ : l71Rd)).1)).2)) (by omega : ((F60 (⟨(F36 codeX code).1.b, (F72 (⟨(F36 codeX code).1.b, (F36 codeX code).1.p⟩ : l71Rd)).2⟩ : l71Rd) ((F72 (⟨(F36 codeX code).1.b, (F36 codeX code).1.p⟩ : l71Rd)).1)).2) ≤ 1000000000)))))))))) (path_p (⟨(F36 codeX code).1.b, (F72 (⟨(F36 codeX code).1.b, (F36 codeX code).1.p⟩ : l71Rd)).2⟩ : l71Rd) ((F72 (⟨(F36 codeX code).1.b, (F36 codeX code).1.p⟩ : l71Rd)).1) (by omega : 0 ≤ ((F72 (⟨(F36 codeX code).1.b, (F36 codeX code).1.p⟩ : l71Rd)).2)) (by omega : ((F72 (⟨(F36 codeX code).1.b, (F36 codeX code).1.p⟩ : l71Rd)).2) ≤ 900000000) (by first | assumption | exact NetOk.frame (by assumption) : FrameOk ((F72 (⟨(F36 codeX code).1.b, (F36 codeX code).1.p⟩ : l71Rd)).1))))))))) (bare_b (⟨(F36 codeX code).1.b, (F36 codeX code).1.p⟩ : l71Rd) (by omega : 0 ≤ ((F36 codeX code).1.p)) (by omega : ((F36 codeX code).1.p) ≤ 800000000))) (bare_n (⟨(F36 codeX code).1.b, (F36 codeX code).1.p⟩ : l71Rd) (by omega : 0 ≤ ((F36 codeX code).1.p)) (by omega : ((F36 codeX code).1.p) ≤ 800000000))))))))) (open_b codeX code))))) (by kernel_rfl)
end Go.Proofs.Ytmiolofjlfnohaa
namespace Go.Proofs.Ytmiolofjlfnohaa
open Go.RowKit
set_option maxRecDepth 100000
set_option linter.unusedVariables false
set_option linter.unusedSimpArgs false
def bx (n : LabNet) (i : Int) : LabBox := n.Boxes.getD (Int.toNat i) default
theorem bx_ok {n : LabNet} (h : NetOk n) {i : Int} (h0 : 0 ≤ i) (h1 : i < (n.Boxes.length : Int)) : BoxP n i (bx n i) := by
  have hb := boxP_ok.1 (h.box (Int.toNat i) (by omega))
  rwa [show ((Int.toNat i : Nat) : Int) = i from by omega] at hb
theorem rowP_mem {n : LabNet} (h : NetOk n) {i : Int} (h0 : 0 ≤ i) (h1 : i < (n.Boxes.length : Int)) {r : LabRow} (hr : r ∈ (bx n i).Rows) : rowP (bx n i) r.In = (r, true) := by
  obtain ⟨⟨_, hpw⟩, _⟩ := bx_ok h h0 h1
  obtain ⟨j, hj, ej⟩ := mem_getD hr
  unfold rowP rowIx
  cases e : first (fun k => decide (((bx n i).Rows.getD k default).In = r.In)) (bx n i).Rows.length with
  | none =>
    have := first_none.1 e j hj
    rw [ej] at this
    exact absurd rfl (of_decide_eq_false this)
  | some k =>
    obtain ⟨g1, g2, _⟩ := first_some.1 e
    have : (bx n i).Rows.getD k default = r := pairK_uniq hpw (getD_mem _ g1) hr (of_decide_eq_true g2)
    simp only [this]
theorem guardP_mem {n : LabNet} (h : NetOk n) {i : Int} (h0 : 0 ≤ i) (h1 : i < (n.Boxes.length : Int)) {v : LabVia} (hr : v ∈ (bx n i).Guards) : guardP (bx n i) v.To = (v, true) := by
  obtain ⟨_, _, hpw⟩ := bx_ok h h0 h1
  obtain ⟨j, hj, ej⟩ := mem_getD hr
  unfold guardP guardIx
  cases e : first (fun k => decide (((bx n i).Guards.getD k default).To = v.To)) (bx n i).Guards.length with
  | none =>
    have := first_none.1 e j hj
    rw [ej] at this
    exact absurd rfl (of_decide_eq_false this)
  | some k =>
    obtain ⟨g1, g2, _⟩ := first_some.1 e
    have : (bx n i).Guards.getD k default = v := pairK_uniq hpw (getD_mem _ g1) hr (of_decide_eq_true g2)
    simp only [this]
theorem guardIx_none_iff {b : LabBox} {x : Int} : guardIx b x = none ↔ ∀ v ∈ b.Guards, v.To ≠ x := by
  unfold guardIx
  rw [first_none]
  constructor
  · intro h v hv
    obtain ⟨k, hk, rfl⟩ := mem_getD hv
    exact of_decide_eq_false (h k hk)
  · exact fun h k hk => decide_eq_false (h _ (getD_mem _ hk))
structure Tun (n : LabNet) (p ls : List Int) : Prop where
  one : 1 ≤ p.length
  len : ls.length = p.length
  rng : ∀ i, i < p.length → 0 ≤ p.getD i default ∧ p.getD i default < (n.Boxes.length : Int)
  row : ∀ i, i < p.length → rowAt p ls i ∈ (bx n (p.getD i default)).Rows
structure Sub (n n' : LabNet) : Prop where
  links : n'.Links = n.Links
  len : n'.Boxes.length = n.Boxes.length
  rows : ∀ (i : Int) (r : LabRow), r ∈ (bx n i).Rows → r ∈ (bx n' i).Rows
  gds : ∀ (i : Int) (v : LabVia), v ∈ (bx n i).Guards → v ∈ (bx n' i).Guards
theorem Sub.refl (n : LabNet) : Sub n n := ⟨rfl, rfl, fun _ _ h => h, fun _ _ h => h⟩
theorem Sub.trans {a b c : LabNet} (h : Sub a b) (k : Sub b c) : Sub a c := ⟨k.links.trans h.links, k.len.trans h.len, fun i r hr => k.rows i r (h.rows i r hr), fun i v hv => k.gds i v (h.gds i v hv)⟩
theorem Tun.mono {n n' : LabNet} {p ls : List Int} (h : Tun n p ls) (hs : Sub n n') : Tun n' p ls :=
  ⟨h.one, h.len, fun i hi => by rw [hs.len]; exact h.rng i hi, fun i hi => hs.rows _ _ (h.row i hi)⟩
theorem linkOf_sub {n n' : LabNet} (h : n'.Links = n.Links) (a b : Int) : linkOf n' a b = linkOf n a b := by
  unfold linkOf isLink
  rw [h]
theorem Sub.link {n n' : LabNet} (h : Sub n n') (a b : Int) : linkOf n' a b = linkOf n a b := linkOf_sub h.links a b
theorem adj_sub {n n' : LabNet} (hs : Sub n n') (w i j : Int) : adj n' w i j ↔ adj n w i j := by unfold adj; rw [hs.link]
theorem far_sub {n n' : LabNet} (hs : Sub n n') (hf : FrameOk n) (hf' : FrameOk n') {b : Int} (h0 : 0 ≤ b) (h1 : b < (n.Boxes.length : Int)) (w : Int) : F80 n' b w = F80 n b w := by
  have d1 := far_isDist n b w hf h0 h1
  have d2 := far_isDist n' b w hf' h0 (by rw [hs.len]; exact h1)
  refine IsDist.unique (n := n) (b := b) (w := w) ?_ d1
  obtain ⟨a1, a2, a3, a4, a5, a6⟩ := d2
  rw [hs.len] at a1 a3 a4 a5 a6
  exact ⟨a1, a2, a3, fun k hk hp => by
    obtain ⟨j, g1, g2, g3⟩ := a4 k hk hp
    exact ⟨j, g1, (adj_sub hs _ _ _).1 g2, g3⟩, a5, fun j k hj hk ha hq => a6 j k hj hk ((adj_sub hs _ _ _).2 ha) hq⟩
theorem nextOf_sub {n n' : LabNet} (hs : Sub n n') (f : List Int) (a w : Int) : nextOf n' f a w = nextOf n f a w := by
  unfold nextOf nextB
  simp only [hs.link]
theorem wayGo_sub {n n' : LabNet} (hs : Sub n n') (f : List Int) (w : Int) : ∀ (m : Nat) (x : Int), wayGo n' f w m x = wayGo n f w m x
  | 0, _ => rfl
  | m + 1, x => by simp only [wayGo, nextOf_sub hs, wayGo_sub hs f w m]
theorem wayOf_sub {n n' : LabNet} (hs : Sub n n') (hf : FrameOk n) (hf' : FrameOk n') {b : Int} (h0 : 0 ≤ b) (h1 : b < (n.Boxes.length : Int)) (a w : Int) : wayOf n' a b w = wayOf n a b w := by
  unfold wayOf
  rw [far_sub hs hf hf' h0 h1]
  simp only [wayGo_sub hs]
theorem wayP_sub {n n' : LabNet} (hs : Sub n n') (hf : FrameOk n) (hf' : FrameOk n') {a b : Int} (hl : 0 ≤ linkOf n a b) : wayP n' a b = wayP n a b := by
  have := linkOf_in hf hl
  unfold wayP
  rw [hs.link]
  exact wayOf_sub hs hf hf' this.2.2.1 this.2.2.2.1 a _
theorem layTo_skip {n : LabNet} {path : List Int} (labels : List Int) {k : Nat} : ∀ m, (∀ i, i < m → Int.toNat (path.getD i default) ≠ k) → (layTo n path labels m).getD k default = n.Boxes.getD k default
  | 0, _ => rfl
  | m + 1, h => by
    rw [layTo, getD_set, if_neg (fun e => h m (Nat.lt_succ_self _) e.1)]
    exact layTo_skip labels m fun i hi => h i (by omega)
def laidP (n : LabNet) (path : List Int) : LabNet := ⟨n.Links, layTo n path (labsOf n path) path.length⟩
theorem laid_box {n : LabNet} {path : List Int} (h : LayP n path (labsOf n path)) (i : Int) : (∀ r ∈ (bx n i).Rows, r ∈ (bx (laidP n path) i).Rows) ∧ (bx (laidP n path) i).Rows.length ≤ (bx n i).Rows.length + 1 ∧ (bx (laidP n path) i).Guards = (bx n i).Guards := by
  unfold bx laidP
  simp only
  by_cases hx : ∃ j, j < path.length ∧ Int.toNat (path.getD j default) = Int.toNat i
  · obtain ⟨j, hj, e⟩ := hx
    have hd := layTo_done h.pth (labsOf n path) path.length j hj (Nat.le_refl _)
    rw [e] at hd
    rw [hd]
    exact ⟨fun r hr => putK_mem.2 (.inl hr), by simp only [putK_len]; omega, rfl⟩
  · rw [layTo_skip (labsOf n path) path.length fun j hj e => hx ⟨j, hj, e⟩]
    exact ⟨fun r hr => hr, by omega, rfl⟩
theorem laid_sub {n : LabNet} {path : List Int} (h : LayP n path (labsOf n path)) : Sub n (laidP n path) :=
  ⟨rfl, layTo_len _ _ _ _, fun i r hr => (laid_box h i).1 r hr, fun i v hv => by rw [(laid_box h i).2.2]; exact hv⟩
theorem laid_tun {n : LabNet} {path : List Int} (h : LayP n path (labsOf n path)) : Tun (laidP n path) path (labsOf n path) := by
  refine ⟨by have := h.pth.two; omega, h.len, fun i hi => by rw [(laid_sub h).len]; exact h.pth.rng i hi, fun i hi => ?_⟩
  unfold bx laidP
  simp only
  rw [layTo_done h.pth (labsOf n path) path.length i hi (Nat.le_refl _)]
  exact putK_mem.2 (.inr rfl)
theorem free_of_len {b : LabBox} (h : b.Rows.length ≤ 59) : freeOf b ≠ 0 := by
  unfold freeOf
  cases e : first (fun k => (rowIx b ((k : Int) + 1)).isNone) 60 with
  | some k => simp only; omega
  | none =>
    exfalso
    have hk : ∀ k : Nat, k < 60 → ∃ j, rowIx b ((k : Int) + 1) = some j ∧ j < b.Rows.length ∧ (b.Rows.getD j default).In = (k : Int) + 1 := fun k hk => by
      have h1 := first_none.1 e k hk
      cases h2 : rowIx b ((k : Int) + 1) with
      | none => rw [h2] at h1; cases h1
      | some j =>
        have h3 := first_some.1 h2
        exact ⟨j, rfl, h3.1, of_decide_eq_true h3.2.1⟩
    have hn : ((List.range 60).map fun (k : Nat) => (rowIx b ((k : Int) + 1)).getD 0).Nodup := by
      refine List.pairwise_iff_getElem.2 fun i j hi hj hij he => ?_
      simp only [List.length_map, List.length_range] at hi hj
      simp only [List.getElem_map, List.getElem_range] at he
      obtain ⟨x, x1, x2, x3⟩ := hk i hi
      obtain ⟨y, y1, y2, y3⟩ := hk j hj
      rw [x1, y1] at he
      simp only [Option.getD_some] at he
      subst he
      omega
    have := nodup_le b.Rows.length _ hn fun x hx => by
      obtain ⟨k, hk1, rfl⟩ := List.mem_map.1 hx
      obtain ⟨j, j1, j2, _⟩ := hk k (List.mem_range.1 hk1)
      rw [j1]; exact j2
    simp only [List.length_map, List.length_range] at this
    omega
theorem labs_of_len {n : LabNet} (h : ∀ i : Int, (bx n i).Rows.length ≤ 59) (path : List Int) : labsB n path = true := by
  unfold labsB
  refine List.all_eq_true.2 fun x hx => ?_
  obtain ⟨y, _, rfl⟩ := List.mem_map.1 hx
  have := free_of_len (h y)
  unfold bx at this
  unfold freeOn
  simpa using this
theorem layR_of {n : LabNet} (hn : NetOk n) (h : ∀ i : Int, (bx n i).Rows.length ≤ 59) {path : List Int} (hp : PathOk n path) : LayP n path (labsOf n path) ∧ layR n path = ((labsOf n path).getD 0 default, 0, laidP n path) := by
  have hb := labs_of_len h path
  have hq := pathB_ok.2 hp
  refine ⟨layP_of hn hq hb, ?_⟩
  unfold layR
  rw [hq, hb]; rfl
theorem way_last {n : LabNet} (hf : FrameOk n) {a b : Int} (hl : 0 ≤ linkOf n a b) (hne : (wayP n a b).length ≠ 0) : (wayP n a b).getD ((wayP n a b).length - 1) default = b := by
  obtain ⟨a0, a1, b0, b1, hab⟩ := linkOf_in hf hl
  have hD := far_isDist n b (linkOf n a b) hf b0 b1
  unfold wayP at hne ⊢
  unfold wayOf at hne ⊢
  by_cases hneg : (F80 n b (linkOf n a b)).getD (Int.toNat a) default < 0
  · rw [decide_eq_true hneg] at hne; exact absurd rfl hne
  rw [decide_eq_false hneg]
  simp only [cond_false]
  generalize hm : Int.toNat ((F80 n b (linkOf n a b)).getD (Int.toNat a) default) = m at *
  have hlen : (a :: wayGo n (F80 n b (linkOf n a b)) (linkOf n a b) m a).length = m + 1 := by rw [List.length_cons, wayGo_len]
  obtain ⟨g1, g2, g3, _⟩ := wayGo_at hD hf.b8 m a a0 a1 (by omega) m (Nat.le_refl _)
  rw [hlen, Nat.add_sub_cancel]
  have := hD.zero (Int.toNat ((a :: wayGo n (F80 n b (linkOf n a b)) (linkOf n a b) m a).getD m default)) (by omega) (by omega)
  omega
def Gd (n : LabNet) (a b : Int) : Prop :=
  ((wayP n a b).length = 0 → guardIx (bx n a) b = none) ∧ ((wayP n a b).length ≠ 0 → ∃ gl, Tun n (wayP n a b) gl ∧ (⟨b, (wayP n a b).getD 1 default, gl.getD 1 default⟩ : LabVia) ∈ (bx n a).Guards)
theorem Gd.mono {n n' : LabNet} (hs : Sub n n') (hf : FrameOk n) (hf' : FrameOk n') {a b : Int} (hl : 0 ≤ linkOf n a b) (h : Gd n a b) (hg : guardIx (bx n a) b = none → guardIx (bx n' a) b = none) : Gd n' a b := by
  have e := wayP_sub hs hf hf' hl
  refine ⟨fun hw => ?_, fun hw => ?_⟩
  · rw [e] at hw; exact hg (h.1 hw)
  · rw [e] at hw
    obtain ⟨gl, g1, g2⟩ := h.2 hw
    rw [e]
    exact ⟨gl, g1.mono hs, hs.gds _ _ g2⟩
theorem guard_step {n : LabNet} (hn : NetOk n) {a b : Int} (hl : 0 ≤ linkOf n a b) (hg : guardIx (bx n a) b = none) (hr : ∀ i : Int, (bx n i).Rows.length ≤ 59) :
    NetOk (guardR n a b).2 ∧ Sub n (guardR n a b).2 ∧ (∀ i : Int, (bx (guardR n a b).2 i).Rows.length ≤ (bx n i).Rows.length + 1) ∧ (∀ i x : Int, 0 ≤ i → (i ≠ a ∨ x ≠ b) → guardIx (bx n i) x = none → guardIx (bx (guardR n a b).2 i) x = none) ∧ Gd (guardR n a b).2 a b := by
  have hN := guardR_net hn a b
  obtain ⟨a0, a1, _⟩ := linkOf_in hn.frame hl
  by_cases hw : (wayP n a b).length = 0
  · have e : (guardR n a b).2 = n := by
      unfold guardR
      have hg' : guardIx (n.Boxes.getD (Int.toNat a) default) b = none := hg
      rw [decide_eq_false (by omega : ¬ linkOf n a b < 0), hg', decide_eq_true hw]; rfl
    rw [e]
    exact ⟨hn, Sub.refl n, fun i => by omega, fun i x _ _ h => h, fun _ => hg, fun h => absurd hw h⟩
  · have hp := (way_path hn.frame hl hw).1
    obtain ⟨hL, _⟩ := layR_of hn hr hp
    have e : (guardR n a b).2 = guardN n a b := by
      unfold guardR
      have hg' : guardIx (n.Boxes.getD (Int.toNat a) default) b = none := hg
      rw [decide_eq_false (by omega : ¬ linkOf n a b < 0), hg', decide_eq_false hw, labs_of_len hr]; rfl
    rw [e] at hN ⊢
    have hlen : (laidN n a b).Boxes.length = n.Boxes.length := layTo_len _ _ _ _
    have hbx : ∀ i : Int, (bx (guardN n a b) i).Rows = (bx (laidP n (wayP n a b)) i).Rows ∧ (bx (guardN n a b) i).Guards = if Int.toNat a = Int.toNat i then putK (fun x : LabVia => x.To) (bx n i).Guards (guardV n a b) else (bx n i).Guards := fun i => by
      have hgs := (laid_box hL i).2.2
      unfold bx guardN at *
      simp only [getD_set]
      by_cases hi : Int.toNat a = Int.toNat i
      · rw [if_pos ⟨hi, by rw [hlen, ← hi]; omega⟩, if_pos hi]
        refine ⟨by rw [hi]; rfl, ?_⟩
        show putK _ ((laidN n a b).Boxes.getD (Int.toNat a) default).Guards _ = _
        rw [hi]
        have : ((laidN n a b).Boxes.getD (Int.toNat i) default).Guards = (n.Boxes.getD (Int.toNat i) default).Guards := hgs
        rw [this]
      · rw [if_neg (fun h => hi h.1), if_neg hi]
        exact ⟨rfl, hgs⟩
    have hs : Sub n (guardN n a b) := ⟨rfl, by simp only [guardN, List.length_set]; exact hlen, fun i r h => by rw [(hbx i).1]; exact (laid_box hL i).1 r h, fun i v h => by
      rw [(hbx i).2]
      split
      · exact putK_mem.2 (.inl h)
      · exact h⟩
    refine ⟨hN, hs, fun i => by rw [(hbx i).1]; exact (laid_box hL i).2.1, fun i x hi0 hix h => ?_, fun h => ?_, fun _ => ?_⟩
    · rw [guardIx_none_iff] at h ⊢
      rw [(hbx i).2]
      split
      · rename_i hi
        intro v hv
        rcases putK_mem.1 hv with hv | rfl
        · exact h v hv
        · have : i = a := by omega
          rcases hix with h1 | h1
          · exact absurd this h1
          · exact fun e => h1 e.symm
      · exact h
    · rw [wayP_sub hs hn.frame hN.frame hl] at h; exact absurd h hw
    · rw [wayP_sub hs hn.frame hN.frame hl]
      refine ⟨labsOf n (wayP n a b), ?_, ?_⟩
      · have ht := laid_tun hL
        exact ⟨ht.one, ht.len, fun i hi => by rw [hs.len]; exact hp.rng i hi, fun i hi => by rw [(hbx _).1]; exact ht.row i hi⟩
      · rw [(hbx a).2, if_pos rfl]
        exact putK_mem.2 (.inr rfl)
structure GI (n x : LabNet) (k : Nat) : Prop where
  net : NetOk x
  sub : Sub n x
  rows : ∀ i : Int, (bx x i).Rows.length ≤ (bx n i).Rows.length + 2 * k
  done : ∀ j, j < k → Gd x (n.Links.getD j default).A (n.Links.getD j default).B ∧ Gd x (n.Links.getD j default).B (n.Links.getD j default).A
  todo : ∀ j, k ≤ j → j < n.Links.length → guardIx (bx x (n.Links.getD j default).A) (n.Links.getD j default).B = none ∧ guardIx (bx x (n.Links.getD j default).B) (n.Links.getD j default).A = none
theorem link_at {n : LabNet} (hf : FrameOk n) {j : Nat} (hj : j < n.Links.length) : linkOf n (n.Links.getD j default).A (n.Links.getD j default).B = j ∧ linkOf n (n.Links.getD j default).B (n.Links.getD j default).A = j := by
  have h : linkOf n (n.Links.getD j default).A (n.Links.getD j default).B = j := linkOf_of hf hj (by simp [isLink])
  exact ⟨h, by rw [linkOf_comm]; exact h⟩
theorem gAll_GI {n : LabNet} (hn : NetOk n) (hg : ∀ i : Int, (bx n i).Guards = []) (hr : ∀ i : Int, (bx n i).Rows.length ≤ 3) : ∀ k, k ≤ n.Links.length → GI n (gAll n k) k
  | 0, _ => ⟨hn, Sub.refl n, fun i => Nat.le_refl _, fun j hj => absurd hj (Nat.not_lt_zero _), fun j _ _ => by
    constructor <;> (rw [guardIx_none_iff]; intro v hv; simp only [gAll] at hv; rw [hg] at hv; cases hv)⟩
  | k + 1, hk => by
    have G := gAll_GI hn hg hr k (by omega)
    have hl14 := hn.frame.l14
    have hab := hn.frame.ab k (by omega)
    have hlk := link_at hn.frame (j := k) (by omega)
    have htodo := G.todo k (Nat.le_refl _) (by omega)
    simp only [gAll]
    generalize hA : (n.Links.getD k default).A = A at *
    generalize hB : (n.Links.getD k default).B = B at *
    have hrow1 : ∀ i : Int, (bx (gAll n k) i).Rows.length ≤ 31 := fun i => by have := G.rows i; have := hr i; omega
    obtain ⟨s1, s2, s3, s4, s5⟩ := guard_step G.net (a := A) (b := B) (by rw [G.sub.link, hlk.1]; omega) htodo.1 (fun i => by have := hrow1 i; omega)
    generalize (guardR (gAll n k) A B).2 = y at *
    have hsub1 := G.sub.trans s2
    obtain ⟨t1, t2, t3, t4, t5⟩ := guard_step s1 (a := B) (b := A) (by rw [hsub1.link, hlk.2]; omega) (s4 B A (by omega) (.inl (by omega)) htodo.2) (fun i => by have := hrow1 i; have := s3 i; omega)
    generalize (guardR y B A).2 = z at *
    have hsub2 := hsub1.trans t2
    have hxz := s2.trans t2
    have hoth : ∀ i x : Int, 0 ≤ i → (i ≠ A ∨ x ≠ B) → (i ≠ B ∨ x ≠ A) → guardIx (bx (gAll n k) i) x = none → guardIx (bx z i) x = none := fun i x h0 h1 h2 h => t4 i x h0 h2 (s4 i x h0 h1 h)
    have hdiff : ∀ j, j < n.Links.length → j ≠ k → ((n.Links.getD j default).A ≠ A ∨ (n.Links.getD j default).B ≠ B) ∧ ((n.Links.getD j default).A ≠ B ∨ (n.Links.getD j default).B ≠ A) := fun j hj hjk => by
      have hj1 := link_at hn.frame hj
      have hj2 := hn.frame.ab j hj
      constructor
      · by_cases e : (n.Links.getD j default).A = A
        · refine .inr fun e2 => hjk ?_
          rw [e, e2, hlk.1] at hj1
          omega
        · exact .inl e
      · omega
    refine ⟨t1, hsub2, fun i => by have := G.rows i; have := s3 i; have := t3 i; omega, fun j hj => ?_, fun j hj1 hj2 => ?_⟩
    · by_cases hjk : j = k
      · subst hjk
        rw [hA, hB]
        exact ⟨s5.mono t2 s1.frame t1.frame (by rw [hsub1.link, hlk.1]; omega) (fun h => t4 A B (by omega) (.inl (by omega)) h), t5⟩
      · have hd := hdiff j (by omega) hjk
        have hj2 := hn.frame.ab j (by omega)
        have hj1 := link_at hn.frame (j := j) (by omega)
        obtain ⟨d1, d2⟩ := G.done j (by omega)
        exact ⟨d1.mono hxz G.net.frame t1.frame (by rw [G.sub.link, hj1.1]; omega) (hoth _ _ (by omega) hd.1 hd.2), d2.mono hxz G.net.frame t1.frame (by rw [G.sub.link, hj1.2]; omega) (hoth _ _ (by omega) (by omega) (by omega))⟩
    · have hd := hdiff j hj2 (by omega)
      have hj3 := hn.frame.ab j hj2
      obtain ⟨d1, d2⟩ := G.todo j (by omega) hj2
      exact ⟨hoth _ _ (by omega) hd.1 hd.2 d1, hoth _ _ (by omega) (by omega) (by omega) d2⟩
theorem gAll_all {n : LabNet} (hn : NetOk n) (hg : ∀ i : Int, (bx n i).Guards = []) (hr : ∀ i : Int, (bx n i).Rows.length ≤ 3) :
    NetOk (gAll n n.Links.length) ∧ Sub n (gAll n n.Links.length) ∧ (∀ i : Int, (bx (gAll n n.Links.length) i).Rows.length ≤ 31) ∧ ∀ a b : Int, 0 ≤ linkOf n a b → Gd (gAll n n.Links.length) a b := by
  have G := gAll_GI hn hg hr n.Links.length (Nat.le_refl _)
  have hl14 := hn.frame.l14
  refine ⟨G.net, G.sub, fun i => by have := G.rows i; have := hr i; omega, fun a b hl => ?_⟩
  obtain ⟨h1, h2⟩ := linkOf_some hl
  obtain ⟨d1, d2⟩ := G.done _ h1
  unfold isLink at h2
  simp only [Bool.or_eq_true, Bool.and_eq_true, decide_eq_true_eq, beq_iff_eq] at h2
  rcases h2 with ⟨e1, e2⟩ | ⟨e1, e2⟩
  · rw [e1, e2] at d1; exact d1
  · rw [e1, e2] at d2; exact d2
end Go.Proofs.Ytmiolofjlfnohaa
namespace Go.Proofs.Ytmiolofjlfnohaa
open Go.RowKit
set_option maxRecDepth 100000
set_option linter.unusedVariables false
set_option linter.unusedSimpArgs false
theorem st_end (n : LabNet) (dn : List Int) (u : Int) : F55 n dn (⟨u, []⟩ : LabPacket) = ((⟨u, []⟩ : LabPacket), 3) := by
  unfold F55
  rfl
theorem st_row {n : LabNet} {u l : Int} {r : LabRow} (hr : rowP (bx n u) l = (r, true)) (dn S : List Int) : F55 n dn (⟨u, S ++ [l]⟩ : LabPacket) =
    bif (r.Next == (-1)) then ((⟨u, S⟩ : LabPacket), 0) else (bif (!decide (linkOf n u r.Next ∈ dn)) then ((⟨r.Next, S ++ [r.Out]⟩ : LabPacket), 0) else
      (bif (bif (!(guardP (bx n u) r.Next).2) then true else (!(!decide (linkOf n u (guardP (bx n u) r.Next).1.Via ∈ dn)))) then ((⟨u, S ++ [l]⟩ : LabPacket), 5) else
        (bif (((S ++ [l]).length : Int) == 8) then ((⟨u, S ++ [l]⟩ : LabPacket), 7) else ((⟨(guardP (bx n u) r.Next).1.Via, (S ++ [r.Out]) ++ [(guardP (bx n u) r.Next).1.Push]⟩ : LabPacket), 0)))) := by
  unfold F55
  have e1 : ((S ++ [l]).length : Int) - 1 = (S.length : Int) := by simp
  have e2 : (S ++ [l]).getD S.length default = l := by rw [getD_app, if_neg (Nat.lt_irrefl _), if_pos rfl]
  have e3 : (S ++ [l]).take S.length = S := by simp
  have e4 : ∀ x, (S ++ [l]).set S.length x = S ++ [x] := fun x => by rw [List.set_append_right _ _ (Nat.le_refl _), Nat.sub_self]; rfl
  have e5 : decide ((S.length : Int) < 0) = false := decide_eq_false (by omega)
  unfold bx at hr ⊢
  simp only [e1, nn, e2, e3, e4, e5, hr, cond_false, Bool.not_true]
def Run (n : LabNet) (dn : List Int) : Nat → LabPacket → LabPacket → Prop
  | 0, p, q => p = q
  | m + 1, p, q => ∃ x, F55 n dn p = (x, 0) ∧ Run n dn m x q
theorem Run.trans {n : LabNet} {dn : List Int} : ∀ {m k : Nat} {p q r : LabPacket}, Run n dn m p q → Run n dn k q r → Run n dn (m + k) p r
  | 0, k, p, q, r, h1, h2 => by
    have h1 : p = q := h1
    subst h1
    rw [Nat.zero_add]; exact h2
  | m + 1, k, p, q, r, ⟨x, h0, h1⟩, h2 => by
    rw [show m + 1 + k = (m + k) + 1 by omega]
    exact ⟨x, h0, h1.trans h2⟩
theorem Run.one {n : LabNet} {dn : List Int} {p x : LabPacket} (h : F55 n dn p = (x, 0)) : Run n dn 1 p x := ⟨x, h, rfl⟩
theorem rowAt_go {p ls : List Int} {i : Nat} (h : i + 1 < p.length) : rowAt p ls i = ⟨ls.getD i default, p.getD (i + 1) default, ls.getD (i + 1) default⟩ := by
  unfold rowAt
  rw [decide_eq_true (by omega : (i : Int) + 1 < (p.length : Int))]; rfl
theorem rowAt_end {p ls : List Int} {i : Nat} (h : p.length ≤ i + 1) : rowAt p ls i = ⟨ls.getD i default, -1, 0⟩ := by
  unfold rowAt
  rw [decide_eq_false (by omega : ¬ (i : Int) + 1 < (p.length : Int))]; rfl
theorem Tun.at {n : LabNet} (hn : NetOk n) {p ls : List Int} (T : Tun n p ls) {i : Nat} (hi : i < p.length) : rowP (bx n (p.getD i default)) (ls.getD i default) = (rowAt p ls i, true) := by
  have h := T.rng i hi
  exact rowP_mem hn h.1 h.2 (T.row i hi)
theorem Tun.lbl {n : LabNet} (hn : NetOk n) {p ls : List Int} (T : Tun n p ls) {i : Nat} (hi : i < p.length) : isLabel (ls.getD i default) := by
  have h := T.rng i hi
  exact ((bx_ok hn h.1 h.2).1.1 _ (T.row i hi)).1
theorem walk_part {n : LabNet} (hn : NetOk n) {p ls : List Int} (T : Tun n p ls) (dn S : List Int) : ∀ (d a : Nat), a + d < p.length → (∀ i, a ≤ i → i < a + d → linkOf n (p.getD i default) (p.getD (i + 1) default) ∉ dn) →
    Run n dn d (⟨p.getD a default, S ++ [ls.getD a default]⟩ : LabPacket) (⟨p.getD (a + d) default, S ++ [ls.getD (a + d) default]⟩ : LabPacket)
  | 0, a, _, _ => rfl
  | d + 1, a, ha, hup => by
    have h1 := T.rng (a + 1) (by omega)
    have hs := st_row (T.at hn (i := a) (by omega)) dn S
    rw [rowAt_go (by omega)] at hs
    have hx : (p.getD (a + 1) default == (-1)) = false := by rw [beqD]; exact decide_eq_false (by omega)
    simp only [hx, cond_false, decide_eq_false (hup a (Nat.le_refl _) (by omega)), Bool.not_false, cond_true] at hs
    refine ⟨_, hs, ?_⟩
    have := walk_part hn T dn S d (a + 1) (by omega) fun i hi1 hi2 => hup i (by omega) (by omega)
    rwa [show a + 1 + d = a + (d + 1) by omega] at this
theorem walk_pop {n : LabNet} (hn : NetOk n) {p ls : List Int} (T : Tun n p ls) (dn S : List Int) : Run n dn 1 (⟨p.getD (p.length - 1) default, S ++ [ls.getD (p.length - 1) default]⟩ : LabPacket) (⟨p.getD (p.length - 1) default, S⟩ : LabPacket) := by
  have h1 := T.one
  have hs := st_row (T.at hn (i := p.length - 1) (by omega)) dn S
  rw [rowAt_end (by omega)] at hs
  exact Run.one hs
theorem walk_round {n : LabNet} (hn : NetOk n) {p ls : List Int} (T : Tun n p ls) (S : List Int) (hS : S.length ≤ 6) {j : Nat} (hj : j + 1 < p.length) (hl : 0 ≤ linkOf n (p.getD j default) (p.getD (j + 1) default)) (hG : Gd n (p.getD j default) (p.getD (j + 1) default)) (hw : (wayP n (p.getD j default) (p.getD (j + 1) default)).length ≠ 0) :
    Run n [linkOf n (p.getD j default) (p.getD (j + 1) default)] (wayP n (p.getD j default) (p.getD (j + 1) default)).length (⟨p.getD j default, S ++ [ls.getD j default]⟩ : LabPacket) (⟨p.getD (j + 1) default, S ++ [ls.getD (j + 1) default]⟩ : LabPacket) := by
  obtain ⟨gl, G1, G2⟩ := hG.2 hw
  obtain ⟨hp, w0, w1, w2⟩ := way_path hn.frame hl hw
  have wl := way_last hn.frame hl hw
  have hrj := T.rng j (by omega)
  have hrj1 := T.rng (j + 1) hj
  have hs := st_row (T.at hn (i := j) (by omega)) [linkOf n (p.getD j default) (p.getD (j + 1) default)] S
  rw [rowAt_go hj] at hs
  generalize hu : p.getD j default = u at *
  generalize hv : p.getD (j + 1) default = v at *
  generalize hW : wayP n u v = W at *
  have hgp := guardP_mem hn hrj.1 hrj.2 G2
  have h2 := hp.two
  have hx : (v == (-1)) = false := by rw [beqD]; exact decide_eq_false (by omega)
  have hvia := w2 0 (by omega)
  rw [w0] at hvia
  have hv2 : linkOf n u (W.getD 1 default) ∉ [linkOf n u v] := by simpa using hvia.2
  have hlen : (((S ++ [ls.getD j default]).length : Int) == 8) = false := by rw [beqD]; exact decide_eq_false (by simp; omega)
  simp only at hgp
  simp only [hx, cond_false, List.mem_singleton, decide_true, Bool.not_true, hgp] at hs
  rw [decide_eq_false (by simpa using hv2 : ¬ linkOf n u (W.getD 1 default) = linkOf n u v), hlen] at hs
  simp only [Bool.not_false, Bool.not_true, cond_false] at hs
  have hpart := walk_part hn G1 [linkOf n u v] (S ++ [ls.getD (j + 1) default]) (W.length - 2) 1 (by omega) fun i hi1 hi2 => by
    have := w2 i (by omega)
    simpa using this.2
  have hpop := walk_pop hn G1 [linkOf n u v] (S ++ [ls.getD (j + 1) default])
  rw [show 1 + (W.length - 2) = W.length - 1 by omega] at hpart
  have h3 := (Run.one hs).trans (hpart.trans hpop)
  rw [wl] at h3
  rwa [show 1 + (W.length - 2 + 1) = W.length by omega] at h3
theorem link_once {n : LabNet} (hf : FrameOk n) {p : List Int} (hp : PathOk n p) {i j : Nat} (hi : i + 1 < p.length) (hj : j + 1 < p.length) (h : linkOf n (p.getD i default) (p.getD (i + 1) default) = linkOf n (p.getD j default) (p.getD (j + 1) default)) : i = j := by
  obtain ⟨a1, a2⟩ := linkOf_some (hp.lnk i hi)
  obtain ⟨b1, b2⟩ := linkOf_some (hp.lnk j hj)
  rw [h] at a2
  unfold isLink at a2 b2
  simp only [Bool.or_eq_true, Bool.and_eq_true, decide_eq_true_eq] at a2 b2
  have inj := hp.inj
  have c1 : p.getD i default = p.getD j default → i = j := inj i j (by omega) (by omega)
  have c2 : p.getD i default = p.getD (j + 1) default → i = j + 1 := inj i (j + 1) (by omega) hj
  have c3 : p.getD (i + 1) default = p.getD j default → i + 1 = j := inj (i + 1) j hi (by omega)
  rcases a2 with ⟨x1, x2⟩ | ⟨x1, x2⟩ <;> rcases b2 with ⟨y1, y2⟩ | ⟨y1, y2⟩
  · exact c1 (x1.symm.trans y1)
  · have := c2 (x1.symm.trans y1); have := c3 (x2.symm.trans y2); omega
  · have := c2 (x2.symm.trans y2); have := c3 (x1.symm.trans y1); omega
  · exact c1 (x2.symm.trans y2)
def extra (n : LabNet) (p : List Int) (d : Int) : Int := match first (fun i => decide (linkOf n (p.getD i default) (p.getD (i + 1) default) = d)) (p.length - 1) with
  | some i => ((labWay n (p.getD i default) (p.getD (i + 1) default) d).length : Int) - 1
  | none => 0
theorem tun_go {n : LabNet} (hn : NetOk n) (hG : ∀ a b : Int, 0 ≤ linkOf n a b → Gd n a b) {p ls : List Int} (T : Tun n p ls) (hp : PathOk n p) (d : Int) (S : List Int) (hS : S.length ≤ 6) :
    (0 ≤ extra n p d → ∃ m : Nat, (m : Int) = (p.length : Int) + extra n p d ∧ m ≤ 16 ∧ Run n [d] m (⟨p.getD 0 default, S ++ [ls.getD 0 default]⟩ : LabPacket) (⟨p.getD (p.length - 1) default, S⟩ : LabPacket)) ∧
    (extra n p d < 0 → ∃ (m : Nat) (q : LabPacket), m ≤ 8 ∧ Run n [d] m (⟨p.getD 0 default, S ++ [ls.getD 0 default]⟩ : LabPacket) q ∧ F55 n [d] q = (q, 5) ∧ ∃ j, j + 1 < p.length ∧ m = j ∧ q.Box = p.getD j default ∧ linkOf n (p.getD j default) (p.getD (j + 1) default) = d) := by
  have h2 := hp.two
  have hm := hp.most
  have h8 := hn.frame.b8
  unfold extra
  cases hf : first (fun i => decide (linkOf n (p.getD i default) (p.getD (i + 1) default) = d)) (p.length - 1) with
  | none =>
    have hno := first_none.1 hf
    refine ⟨fun _ => ⟨p.length, by simp only; omega, by omega, ?_⟩, fun h => absurd h (by simp)⟩
    have h1 := walk_part hn T [d] S (p.length - 1) 0 (by omega) fun i _ hi => by
      have := of_decide_eq_false (hno i (by omega))
      simpa using this
    rw [Nat.zero_add] at h1
    have h3 := h1.trans (walk_pop hn T [d] S)
    rwa [show p.length - 1 + 1 = p.length by omega] at h3
  | some j =>
    obtain ⟨hj, hjd, hjl⟩ := first_some.1 hf
    have hjd := of_decide_eq_true hjd
    have hl := hp.lnk j (by omega)
    have hup : ∀ i, i + 1 < p.length → i ≠ j → linkOf n (p.getD i default) (p.getD (i + 1) default) ∉ [d] := fun i hi hij hmem => by
      simp only [List.mem_singleton] at hmem
      exact hij (link_once hn.frame hp hi (by omega) (hmem.trans hjd.symm))
    have hway : labWay n (p.getD j default) (p.getD (j + 1) default) d = wayP n (p.getD j default) (p.getD (j + 1) default) := by
      rw [← hjd]; exact labWay_way hn (by omega)
    simp only [hway]
    have h1 := walk_part hn T [d] S j 0 (by omega) fun i _ hi => hup i (by omega) (by omega)
    rw [Nat.zero_add] at h1
    have hGj := hG _ _ hl
    by_cases hw : (wayP n (p.getD j default) (p.getD (j + 1) default)).length = 0
    · refine ⟨fun h => absurd h (by omega), fun _ => ⟨j, _, by omega, h1, ?_, j, by omega, rfl, rfl, hjd⟩⟩
      have hs := st_row (T.at hn (i := j) (by omega)) [d] S
      rw [rowAt_go (by omega)] at hs
      have hrj1 := T.rng (j + 1) (by omega)
      have hx : (p.getD (j + 1) default == (-1)) = false := by rw [beqD]; exact decide_eq_false (by omega)
      have hgn := guardP_none.2 (hGj.1 hw)
      simp only [hx, cond_false, hjd, List.mem_singleton, decide_true, Bool.not_true, hgn, Bool.not_false, cond_true] at hs
      exact hs
    · refine ⟨fun _ => ⟨j + ((wayP n (p.getD j default) (p.getD (j + 1) default)).length + (p.length - 1 - (j + 1) + 1)), by omega, ?_, ?_⟩, fun h => absurd h (by omega)⟩
      · have := (way_path hn.frame hl hw).1.most; omega
      · have hrd := walk_round hn T S hS (j := j) (by omega) hl hGj hw
        rw [hjd] at hrd
        have h3 := walk_part hn T [d] S (p.length - 1 - (j + 1)) (j + 1) (by omega) fun i hi1 hi2 => hup i (by omega) (by omega)
        rw [show j + 1 + (p.length - 1 - (j + 1)) = p.length - 1 by omega] at h3
        exact h1.trans (hrd.trans (h3.trans (walk_pop hn T [d] S)))
end Go.Proofs.Ytmiolofjlfnohaa
namespace Go.Proofs.Ytmiolofjlfnohaa
open Go.RowKit
set_option maxRecDepth 100000
set_option linter.unusedVariables false
set_option linter.unusedSimpArgs false
theorem wayOf_pathI {n : LabNet} (hf : FrameOk n) {a b w : Int} (a0 : 0 ≤ a) (a1 : a < (n.Boxes.length : Int)) (b0 : 0 ≤ b) (b1 : b < (n.Boxes.length : Int)) (hne : (wayOf n a b w).length ≠ 0) :
    PathI n (wayOf n a b w) ∧ (wayOf n a b w).getD 0 default = a ∧ (wayOf n a b w).getD ((wayOf n a b w).length - 1) default = b := by
  have hD := far_isDist n b w hf b0 b1
  unfold wayOf at hne ⊢
  by_cases hneg : (F80 n b w).getD (Int.toNat a) default < 0
  · rw [decide_eq_true hneg] at hne; exact absurd rfl hne
  rw [decide_eq_false hneg]
  simp only [cond_false]
  generalize hm : Int.toNat ((F80 n b w).getD (Int.toNat a) default) = m at *
  have hat := wayGo_at hD hf.b8 m a a0 a1 (by omega)
  have hlen : (a :: wayGo n (F80 n b w) w m a).length = m + 1 := by rw [List.length_cons, wayGo_len]
  generalize hW : a :: wayGo n (F80 n b w) w m a = W at *
  refine ⟨⟨by omega, fun x hx => ?_, ?_, fun i hi => ?_⟩, by rw [← hW]; rfl, ?_⟩
  · obtain ⟨k, hk, rfl⟩ := mem_getD hx
    have := hat k (by omega)
    exact ⟨this.1, this.2.1⟩
  · refine List.pairwise_iff_getElem.2 fun i j hi hj hij e => ?_
    have h1 := (hat i (by omega)).2.2.1
    have h2 := (hat j (by omega)).2.2.1
    rw [getD_lt W hi, e, ← getD_lt W hj] at h1
    omega
  · exact ((hat i (by omega)).2.2.2 (by omega)).1
  · obtain ⟨g1, g2, g3, _⟩ := hat m (Nat.le_refl _)
    rw [hlen, Nat.add_sub_cancel]
    have := hD.zero (Int.toNat (W.getD m default)) (by omega) (by omega)
    omega
structure Two (n : LabNet) (a b : List Int) : Prop where
  net : NetOk n
  bare : ∀ i : Int, (bx n i).Rows = [] ∧ (bx n i).Guards = []
  pa : PathI n a
  pb : b.length ≠ 0 → PathI n b ∧ b.getD 0 default = a.getD (a.length - 1) default
  lb : b.length ≤ 8
theorem two_ok (codeX : SV) (code : List Int) : Two (F30 codeX code).1 (F30 codeX code).2.1 (F30 codeX code).2.2 := by
  unfold F30
  obtain ⟨h1, h2⟩ := open_b codeX code
  generalize F36 codeX code = O at *
  obtain ⟨⟨b, p⟩, X⟩ := O
  simp only at h1 h2 ⊢
  obtain ⟨n1, n2, n3, n4⟩ := bare_ok (⟨b, p⟩ : l71Rd) (by show 0 ≤ p; omega) (by show p ≤ _; omega)
  generalize F72 (⟨b, p⟩ : l71Rd) = N at *
  obtain ⟨n, p2⟩ := N
  simp only at n1 n2 n3 n4 ⊢
  obtain ⟨k1, k2, k3⟩ := path_ok (⟨b, p2⟩ : l71Rd) n n1.frame (by show 0 ≤ p2; omega) (by show p2 ≤ _; omega)
  obtain ⟨_, _, k4, _, k5, k6⟩ := path_p (⟨b, p2⟩ : l71Rd) n (by show 0 ≤ p2; omega) (by show p2 ≤ _; omega) n1.frame
  generalize F60 (⟨b, p2⟩ : l71Rd) n = A at *
  obtain ⟨a, p3⟩ := A
  simp only at k1 k2 k3 k4 k5 k6 ⊢
  have hb1 := n1.frame.b1
  have hx := pick_in (⟨b, p3⟩ : l71Rd) (n.Boxes.length : Int) (by show 0 ≤ p3; omega) (by show p3 ≤ _; omega)
  generalize F39 (⟨b, p3⟩ : l71Rd) (n.Boxes.length : Int) = Q at *
  obtain ⟨x, p4⟩ := Q
  simp only at hx ⊢
  have e1 : Int.toNat ((a.length : Int) - 1) = a.length - 1 := by omega
  rw [e1] at k5 k6 ⊢
  refine ⟨n1, fun i => ?_, k1, fun hne => ?_, ?_⟩
  · have := n2 (Int.toNat i)
    unfold bx
    rw [this]; exact ⟨rfl, rfl⟩
  · obtain ⟨w1, w2, _⟩ := wayOf_pathI n1.frame k5 k6 hx.1 (hx.2.1 (by omega)) hne
    exact ⟨w1, w2⟩
  · have := wayOf_len n1.frame (-1) k5 k6 hx.1 (hx.2.1 (by omega))
    have := n1.frame.b8
    omega
theorem two_b (codeX : SV) (code : List Int) : (F30 codeX code).2.1.length ≤ 8 ∧ (F30 codeX code).2.2.length ≤ 8 := by
  have h := two_ok codeX code
  exact ⟨h.pa.len h.net.frame, h.lb⟩
theorem tp_a {A B : List Int} (h : 1 ≤ A.length) : 1 ≤ (([A, B] : List (List Int)).getD (Int.toNat 0) default).length := h
theorem tp_b {A B : List Int} (h : 1 ≤ B.length) : 1 ≤ (([A, B] : List (List Int)).getD (Int.toNat ((([A, B] : List (List Int)).length : Int) - 1)) default).length := h
theorem tp_all {A B : List Int} (h1 : A.length ≤ 1000000000) (h2 : B.length ≤ 1000000000) : ∀ k : Nat, (([A, B] : List (List Int)).getD k default).length ≤ 1000000000
  | 0 => h1
  | 1 => h2
  | k + 2 => Nat.zero_le _
theorem tp_1 {A : List Int} (h : 1 ≤ A.length) : 1 ≤ (([A] : List (List Int)).getD (Int.toNat 0) default).length := h
theorem tp_2 {A : List Int} (h : 1 ≤ A.length) : 1 ≤ (([A] : List (List Int)).getD (Int.toNat ((([A] : List (List Int)).length : Int) - 1)) default).length := h
theorem tp_3 {A : List Int} (h1 : A.length ≤ 1000000000) : ∀ k : Nat, (([A] : List (List Int)).getD k default).length ≤ 1000000000
  | 0 => h1
  | k + 1 => Nat.zero_le _
end Go.Proofs.Ytmiolofjlfnohaa
namespace Go.Proofs.Ytmiolofjlfnohaa
open Go.RowKit
set_option maxRecDepth 100000
set_option linter.unusedVariables false
set_option linter.unusedSimpArgs false
def F16_s0 (n : LabNet) (a : Int) (b : Int) : Int → Lp Int Int := fun i40 =>
  bif (decide (i40 < (n.Links.length : Int))) then (bif (bif (bif ((n.Links.getD (Int.toNat i40) default).A == a) then ((n.Links.getD (Int.toNat i40) default).B == b) else false) then true else (bif ((n.Links.getD (Int.toNat i40) default).A == b) then ((n.Links.getD (Int.toNat i40) default).B == a) else false)) then (.ret i40) else (.next (i40 + 1))) else (.done i40)
def F16 (n : LabNet) (a : Int) (b : Int) : Int :=
  (runL (F16_s0 n a b) ((Int.toNat ((n.Links.length : Int) - 0)) + 1) 0).fin (fun r => r) (fun i40 => (-1))
def S16 (R : Int) (n : LabNet) (a : Int) (b : Int) : Spec := ⟨[.r (.g (eLabNet n)), .r (.c (.v (vI a))), .r (.c (.v (vI b)))], .v (vI R), True⟩
theorem ok16 (n : LabNet) (a : Int) (b : Int) : (S16 (F16 n a b) n a b).ok Try.prog 16 :=
  fnG_ok mixed (fn := Try.f16) (ct := .seq (.no) (.seq (.seqk [(3, 0), (3, 1)] (.no) (.blk (.loop (ι := Nat × Int) (fun i => (fun (i40 : Int) => (⟨[(1, some (.v (vI a))), (2, some (.v (vI b))), (3, some (.p 0 0)), (7, some (.v (vI i40)))], [(0, some (.box 26 [.h 1 0, .h 2 0])), (1, some (.shr none (.l 2 eLabLink n.Links))), (2, some (.shr none (.l 2 eLabBox n.Boxes)))], 3⟩ : St)) i.2) (fun i => runL (F16_s0 n a b) i.1 i.2 = (runL (F16_s0 n a b) ((Int.toNat ((n.Links.length : Int) - 0)) + 1) 0) ∧ (fun (i40 : Int) => (Int.toNat ((n.Links.length : Int) - i40) < i.1 ∧ (0 : Int) ≤ i40)) i.2) (fun i => i.1) (((Int.toNat ((n.Links.length : Int) - 0)) + 1), 0) (fun i => (fun (i40 : Int) => (.seq (.seq (.no) (.cond (.no) (.no))) (.seq (.blk (.seq (.no) (.cond (.seq (.no) (.no)) (.no)))) (.reg [(1, .bnd)])))) i.2)))) (.seq (.no) (.no)))) Try.func16 (fun (_ : True) => fun (_ : n.Links.length ≤ 9223372036854775807) => fun (_ : n.Boxes.length ≤ 9223372036854775807) => ai (ai (rfl) (ai (rfl) (ai (rfl) (ai ((Imp.refl _)) (ai ((Imp.refl _)) ((ai (rfl : runL (F16_s0 n a b) ((Int.toNat ((n.Links.length : Int) - 0)) + 1) 0 = (runL (F16_s0 n a b) ((Int.toNat ((n.Links.length : Int) - 0)) + 1) 0)) (ai ((Nat.lt_succ_self _ : Int.toNat ((n.Links.length : Int) - 0) < ((Int.toNat ((n.Links.length : Int) - 0)) + 1))) ((by omega : (0 : Int) ≤ 0))))))))) : ((.int .i64 a : Value) = .int .i64 a) ∧ ((.int .i64 b : Value) = .int .i64 b) ∧ ((.int .i64 0 : Value) = .int .i64 0) ∧ (Imp (.l 2 eLabLink n.Links) (.l 2 eLabLink n.Links)) ∧ (Imp (.l 2 eLabBox n.Boxes) (.l 2 eLabBox n.Boxes)) ∧ (runL (F16_s0 n a b) ((Int.toNat ((n.Links.length : Int) - 0)) + 1) 0 = (runL (F16_s0 n a b) ((Int.toNat ((n.Links.length : Int) - 0)) + 1) 0) ∧ Int.toNat ((n.Links.length : Int) - 0) < ((Int.toNat ((n.Links.length : Int) - 0)) + 1) ∧ (0 : Int) ≤ 0)) (fun (i0 : Nat × Int) (hi0 : runL (F16_s0 n a b) i0.1 i0.2 = (runL (F16_s0 n a b) ((Int.toNat ((n.Links.length : Int) - 0)) + 1) 0) ∧ (fun (i40 : Int) => (Int.toNat ((n.Links.length : Int) - i40) < i0.1 ∧ (0 : Int) ≤ i40)) i0.2) => (fun (m0 : Nat) (i40 : Int) (hI0 : runL (F16_s0 n a b) (m0 + 1) i40 = (runL (F16_s0 n a b) ((Int.toNat ((n.Links.length : Int) - 0)) + 1) 0)) (_ : Int.toNat ((n.Links.length : Int) - i40) < m0 + 1) (hl0 : m0 < i0.1) (_ : (0 : Int) ≤ i40) => ai (fun h2 : (decide (i40 < (n.Links.length : Int))) = true => (fun _ : i40 < (n.Links.length : Int) => ai ((by omega : 0 ≤ i40 ∧ i40 < (n.Links.length : Int))) (ai ((fun k3 : ((n.Links.getD (Int.toNat i40) default).A == a) = true => (fun _ : (n.Links.getD (Int.toNat i40) default).A = a => (by omega : 0 ≤ i40 ∧ i40 < (n.Links.length : Int))) (eq_of_beq k3))) (ai ((fun k4 : (bif ((n.Links.getD (Int.toNat i40) default).A == a) then ((n.Links.getD (Int.toNat i40) default).B == b) else false) = false => (by omega : 0 ≤ i40 ∧ i40 < (n.Links.length : Int)))) (ai ((fun k6 : ((n.Links.getD (Int.toNat i40) default).A == b) = true => (fun _ : (n.Links.getD (Int.toNat i40) default).A = b => (fun k5 : (bif ((n.Links.getD (Int.toNat i40) default).A == a) then ((n.Links.getD (Int.toNat i40) default).B == b) else false) = false => (by omega : 0 ≤ i40 ∧ i40 < (n.Links.length : Int)))) (eq_of_beq k6))) (ai (fun h7 : (bif (bif ((n.Links.getD (Int.toNat i40) default).A == a) then ((n.Links.getD (Int.toNat i40) default).B == b) else false) then true else (bif ((n.Links.getD (Int.toNat i40) default).A == b) then ((n.Links.getD (Int.toNat i40) default).B == a) else false)) = true => (fun hF : (i40 : Int) = (F16 n a b) => ai (congrArg (fun r : Int => (.int .i64 r : Value)) hF) (trivial)) (finR (runL_ret hI0 (condT h2 (condT h7 (rfl)))) rfl)) (fun h7 : (bif (bif ((n.Links.getD (Int.toNat i40) default).A == a) then ((n.Links.getD (Int.toNat i40) default).B == b) else false) then true else (bif ((n.Links.getD (Int.toNat i40) default).A == b) then ((n.Links.getD (Int.toNat i40) default).B == a) else false)) = false => ai ((by unfold i64ok; omega : i64ok (i40 + 1))) (Exists.intro (p := fun j : Nat × Int => (fun (i40_ : Int) => (((.int .i64 a : Value) = .int .i64 a) ∧ ((.int .i64 b : Value) = .int .i64 b) ∧ ((.int .i64 (i40 + 1) : Value) = .int .i64 i40_) ∧ (Imp (.l 2 eLabLink n.Links) (.l 2 eLabLink n.Links)) ∧ (Imp (.l 2 eLabBox n.Boxes) (.l 2 eLabBox n.Boxes)) ∧ ((runL (F16_s0 n a b) j.1 j.2 = (runL (F16_s0 n a b) ((Int.toNat ((n.Links.length : Int) - 0)) + 1) 0) ∧ Int.toNat ((n.Links.length : Int) - i40_) < j.1 ∧ (0 : Int) ≤ i40_) ∧ j.1 < i0.1))) j.2) (m0, (i40 + 1)) (ai (rfl) (ai (rfl) (ai (rfl) (ai ((Imp.refl _)) (ai ((Imp.refl _)) (ai (ai (runL_next hI0 (condT h2 (condF h7 (rfl)))) (ai ((by omega : Int.toNat ((n.Links.length : Int) - (i40 + 1)) < m0)) ((by omega : (0 : Int) ≤ (i40 + 1))))) hl0))))))))))))) (of_decide_eq_true h2)) (fun h2 : (decide (i40 < (n.Links.length : Int))) = false => (fun _ : ¬ i40 < (n.Links.length : Int) => (fun hD0_8 : (runL (F16_s0 n a b) ((Int.toNat ((n.Links.length : Int) - 0)) + 1) 0) = Lp.done i40 => (fun hF : ((-1) : Int) = (F16 n a b) => ai (congrArg (fun r : Int => (.int .i64 r : Value)) hF) (trivial)) (finD hD0_8 (rfl))) (runL_done hI0 (condF h2 (rfl)))) (of_decide_eq_false h2))) (i0.1 - 1) i0.2 (hd1 hi0.1 hi0.2.1) (hd2 hi0.2.1) (hd3 hi0.2.1) hi0.2.2)) (by kernel_rfl)
theorem as16 (n : LabNet) (a : Int) (b : Int) : F16 n a b = (linkOf n a b) := by
  unfold F16 linkOf
  rw [search (isLink n a b) (fun k => (k : Int)) n.Links.length _ (fun k hk => by
    simp only [F16_s0, ltD hk, cond_true, nn, isLink, beqD, Bool.cond_false_right, Bool.cond_true_left]) (by simp [F16_s0])]
  all_goals (cases first (isLink n a b) n.Links.length <;> rfl)
theorem oa16 (n : LabNet) (a : Int) (b : Int) : (S16 (linkOf n a b) n a b).ok Try.prog 16 := by
  intro hp; have h := ok16 n a b hp; rw [as16 n a b] at h; exact h
def F74_s0 (n : LabNet) (path : List Int) (down : Int) : Int → Lp Int Int := fun i40 =>
  bif (decide ((i40 + 1) < (path.length : Int))) then (bif ((linkOf n (path.getD (Int.toNat i40) default) (path.getD (Int.toNat (i40 + 1)) default)) == down) then (.ret (((labWay n (path.getD (Int.toNat i40) default) (path.getD (Int.toNat (i40 + 1)) default) down).length : Int) - 1)) else (.next (i40 + 1))) else (.done i40)
def F74 (n : LabNet) (path : List Int) (down : Int) : Int :=
  (runL (F74_s0 n path down) ((Int.toNat ((path.length : Int) - (0 + 1))) + 1) 0).fin (fun r => r) (fun i40 => 0)
def S74 (n : LabNet) (path : List Int) (down : Int) : Spec := ⟨[.r (.g (eLabNet n)), .r (.c (.l 1 eInt path)), .r (.c (.v (vI down)))], .v (vI (F74 n path down)), path.length ≤ 1000000000⟩
theorem ok74 (n : LabNet) (path : List Int) (down : Int) : (S74 n path down).ok Try.prog 74 :=
  fnG_ok mixed (fn := Try.f74) (ct := .seqk [(1, 0)] (.no) (.seq (.seqk [(1, 0), (3, 0), (3, 1)] (.no) (.blk (.loop (ι := Nat × Int) (fun i => (fun (i40 : Int) => (⟨[(1, some (.h 0 0)), (2, some (.v (vI down))), (3, some (.p 1 0)), (7, some (.v (vI i40)))], [(0, some (.shr none (.l 1 eInt path))), (1, some (.box 26 [.h 2 0, .h 3 0])), (2, some (.shr none (.l 2 eLabLink n.Links))), (3, some (.shr none (.l 2 eLabBox n.Boxes)))], 4⟩ : St)) i.2) (fun i => runL (F74_s0 n path down) i.1 i.2 = (runL (F74_s0 n path down) ((Int.toNat ((path.length : Int) - (0 + 1))) + 1) 0) ∧ (fun (i40 : Int) => (Int.toNat ((path.length : Int) - (i40 + 1)) < i.1 ∧ i40 ≤ (path.length : Int) ∧ (0 : Int) ≤ i40)) i.2) (fun i => i.1) (((Int.toNat ((path.length : Int) - (0 + 1))) + 1), 0) (fun i => (fun (i40 : Int) => (.seq (.seq (.reg [(1, .bnd)]) (.cond (.no) (.no))) (.seq (.blk (.seq (.reg [(7, .bnd), (10, .call 16 (S16 (linkOf n (path.getD (Int.toNat i40) default) (path.getD (Int.toNat (i40 + 1)) default)) n (path.getD (Int.toNat i40) default) (path.getD (Int.toNat (i40 + 1)) default)) (oa16 n (path.getD (Int.toNat i40) default) (path.getD (Int.toNat (i40 + 1)) default)) none)]) (.cond (.seq (.reg [(7, .bnd), (11, .call 12 (S12 (labWay n (path.getD (Int.toNat i40) default) (path.getD (Int.toNat (i40 + 1)) default) down) n (path.getD (Int.toNat i40) default) (path.getD (Int.toNat (i40 + 1)) default) down) (oa12 n (path.getD (Int.toNat i40) default) (path.getD (Int.toNat (i40 + 1)) default) down) none), (13, .bnd)]) (.no)) (.no)))) (.reg [(1, .bnd)])))) i.2)))) (.seq (.no) (.no)))) Try.func74 (fun (hpre0 : path.length ≤ 1000000000) => fun (_ : path.length ≤ 9223372036854775807) => fun (_ : path.length ≤ 9223372036854775807) => fun (_ : n.Links.length ≤ 9223372036854775807) => fun (_ : n.Boxes.length ≤ 9223372036854775807) => ai (ai (rfl) (ai (rfl) (ai ((Imp.refl _)) (ai ((Imp.refl _)) (ai ((Imp.refl _)) ((ai (rfl : runL (F74_s0 n path down) ((Int.toNat ((path.length : Int) - (0 + 1))) + 1) 0 = (runL (F74_s0 n path down) ((Int.toNat ((path.length : Int) - (0 + 1))) + 1) 0)) (ai ((Nat.lt_succ_self _ : Int.toNat ((path.length : Int) - (0 + 1)) < ((Int.toNat ((path.length : Int) - (0 + 1))) + 1))) (ai ((by omega : 0 ≤ (path.length : Int))) ((by omega : (0 : Int) ≤ 0)))))))))) : ((.int .i64 down : Value) = .int .i64 down) ∧ ((.int .i64 0 : Value) = .int .i64 0) ∧ (Imp (.l 1 eInt path) (.l 1 eInt path)) ∧ (Imp (.l 2 eLabLink n.Links) (.l 2 eLabLink n.Links)) ∧ (Imp (.l 2 eLabBox n.Boxes) (.l 2 eLabBox n.Boxes)) ∧ (runL (F74_s0 n path down) ((Int.toNat ((path.length : Int) - (0 + 1))) + 1) 0 = (runL (F74_s0 n path down) ((Int.toNat ((path.length : Int) - (0 + 1))) + 1) 0) ∧ Int.toNat ((path.length : Int) - (0 + 1)) < ((Int.toNat ((path.length : Int) - (0 + 1))) + 1) ∧ 0 ≤ (path.length : Int) ∧ (0 : Int) ≤ 0)) (fun (i0 : Nat × Int) (hi0 : runL (F74_s0 n path down) i0.1 i0.2 = (runL (F74_s0 n path down) ((Int.toNat ((path.length : Int) - (0 + 1))) + 1) 0) ∧ (fun (i40 : Int) => (Int.toNat ((path.length : Int) - (i40 + 1)) < i0.1 ∧ i40 ≤ (path.length : Int) ∧ (0 : Int) ≤ i40)) i0.2) => (fun (m0 : Nat) (i40 : Int) (hI0 : runL (F74_s0 n path down) (m0 + 1) i40 = (runL (F74_s0 n path down) ((Int.toNat ((path.length : Int) - (0 + 1))) + 1) 0)) (_ : Int.toNat ((path.length : Int) - (i40 + 1)) < m0 + 1) (hl0 : m0 < i0.1) (_ : i40 ≤ (path.length : Int)) (_ : (0 : Int) ≤ i40) => ai ((by unfold i64ok; omega : i64ok (i40 + 1))) (ai (fun h2 : (decide ((i40 + 1) < (path.length : Int))) = true => (fun _ : (i40 + 1) < (path.length : Int) => ai ((by omega : 0 ≤ i40 ∧ i40 < (path.length : Int))) (ai ((by unfold i64ok; omega : i64ok (i40 + 1))) (ai ((by omega : 0 ≤ (i40 + 1) ∧ (i40 + 1) < (path.length : Int))) (ai (trivial) (ai ((Imps.refl (eLabNet n))) (ai ((Imp.refl (.v (vI (path.getD (Int.toNat i40) default))))) (ai ((Imp.refl (.v (vI (path.getD (Int.toNat (i40 + 1)) default))))) (ai (fun h3 : ((linkOf n (path.getD (Int.toNat i40) default) (path.getD (Int.toNat (i40 + 1)) default)) == down) = true => (fun _ : (linkOf n (path.getD (Int.toNat i40) default) (path.getD (Int.toNat (i40 + 1)) default)) = down => ai ((by omega : 0 ≤ i40 ∧ i40 < (path.length : Int))) (ai ((by unfold i64ok; omega : i64ok (i40 + 1))) (ai ((by omega : 0 ≤ (i40 + 1) ∧ (i40 + 1) < (path.length : Int))) (ai (trivial) (ai ((Imps.refl (eLabNet n))) (ai ((Imp.refl (.v (vI (path.getD (Int.toNat i40) default))))) (ai ((Imp.refl (.v (vI (path.getD (Int.toNat (i40 + 1)) default))))) (ai ((Imp.refl (.v (vI down)))) ((fun gv4 : ((labWay n (path.getD (Int.toNat i40) default) (path.getD (Int.toNat (i40 + 1)) default) down)).length ≤ 8 => ai ((by unfold i64ok; omega : i64ok (((labWay n (path.getD (Int.toNat i40) default) (path.getD (Int.toNat (i40 + 1)) default) down).length : Int) - 1))) ((fun hF : ((((labWay n (path.getD (Int.toNat i40) default) (path.getD (Int.toNat (i40 + 1)) default) down).length : Int) - 1) : Int) = (F74 n path down) => ai (congrArg (fun r : Int => (.int .i64 r : Value)) hF) (trivial)) (finR (runL_ret hI0 (condT h2 (condT h3 (rfl)))) rfl))) ((by exact labWay_len _ _ _ _))))))))))) (eq_of_beq h3)) (fun h3 : ((linkOf n (path.getD (Int.toNat i40) default) (path.getD (Int.toNat (i40 + 1)) default)) == down) = false => (fun _ : ¬ (linkOf n (path.getD (Int.toNat i40) default) (path.getD (Int.toNat (i40 + 1)) default)) = down => ai ((by unfold i64ok; omega : i64ok (i40 + 1))) (Exists.intro (p := fun j : Nat × Int => (fun (i40_ : Int) => (((.int .i64 down : Value) = .int .i64 down) ∧ ((.int .i64 (i40 + 1) : Value) = .int .i64 i40_) ∧ (Imp (.l 1 eInt path) (.l 1 eInt path)) ∧ (Imp (.l 2 eLabLink n.Links) (.l 2 eLabLink n.Links)) ∧ (Imp (.l 2 eLabBox n.Boxes) (.l 2 eLabBox n.Boxes)) ∧ ((runL (F74_s0 n path down) j.1 j.2 = (runL (F74_s0 n path down) ((Int.toNat ((path.length : Int) - (0 + 1))) + 1) 0) ∧ Int.toNat ((path.length : Int) - (i40_ + 1)) < j.1 ∧ i40_ ≤ (path.length : Int) ∧ (0 : Int) ≤ i40_) ∧ j.1 < i0.1))) j.2) (m0, (i40 + 1)) (ai (rfl) (ai (rfl) (ai ((Imp.refl _)) (ai ((Imp.refl _)) (ai ((Imp.refl _)) (ai (ai (runL_next hI0 (condT h2 (condF h3 (rfl)))) (ai ((by omega : Int.toNat ((path.length : Int) - ((i40 + 1) + 1)) < m0)) (ai ((by omega : (i40 + 1) ≤ (path.length : Int))) ((by omega : (0 : Int) ≤ (i40 + 1)))))) hl0)))))))) (beqF h3)))))))))) (of_decide_eq_true h2)) (fun h2 : (decide ((i40 + 1) < (path.length : Int))) = false => (fun _ : ¬ (i40 + 1) < (path.length : Int) => (fun hD0_5 : (runL (F74_s0 n path down) ((Int.toNat ((path.length : Int) - (0 + 1))) + 1) 0) = Lp.done i40 => (fun hF : (0 : Int) = (F74 n path down) => ai (congrArg (fun r : Int => (.int .i64 r : Value)) hF) (trivial)) (finD hD0_5 (rfl))) (runL_done hI0 (condF h2 (rfl)))) (of_decide_eq_false h2)))) (i0.1 - 1) i0.2 (hd1 hi0.1 hi0.2.1) (hd2 hi0.2.1) (hd3 hi0.2.1) hi0.2.2.1 hi0.2.2.2)) (by kernel_rfl)
def F18_s0 (n : LabNet) (down : List Int) (p : LabPacket) : (Int × Int × List Int) → Lp (Int × Int × List Int) (LabPacket × Int × Int) := fun (v27, p1, p2) =>
  bif (decide (v27 < 200)) then (bif ((F55 n down (⟨p1, p2⟩ : LabPacket)).2 == 0) then (.next ((v27 + 1), ((F55 n down (⟨p1, p2⟩ : LabPacket)).1).Box, ((F55 n down (⟨p1, p2⟩ : LabPacket)).1).Stack)) else (bif ((F55 n down (⟨p1, p2⟩ : LabPacket)).2 == 3) then (.ret ((⟨p1, p2⟩ : LabPacket), v27, 0)) else (.ret ((⟨p1, p2⟩ : LabPacket), v27, (F55 n down (⟨p1, p2⟩ : LabPacket)).2)))) else (.done (v27, p1, p2))
def F18 (n : LabNet) (down : List Int) (p : LabPacket) : LabPacket × Int × Int :=
  bif (!(netB n)) then ((⟨0, []⟩ : LabPacket), 0, 1) else (bif (!(packB n p)) then ((⟨0, []⟩ : LabPacket), 0, 2) else ((runL (F18_s0 n down p) ((Int.toNat (200 - 0)) + 1) (0, p.Box, p.Stack)).fin (fun r => r) (fun (v27, p1, p2) => bif ((p2.length : Int) == 0) then ((⟨p1, p2⟩ : LabPacket), 200, 0) else ((⟨p1, p2⟩ : LabPacket), 200, 6))))
def S18 (n : LabNet) (down : List Int) (p : LabPacket) : Spec := ⟨[.r (.g (eLabNet n)), .r (.c (.l 1 eInt down)), .r (.g (eLabPacket p))], .tu [.ag [.v (vI (((F18 n down p).1).Box)), .ow (.l 1 eInt (((F18 n down p).1).Stack))], .v (vI ((F18 n down p).2.1)), .v (vI ((F18 n down p).2.2))], p.Stack.length ≤ 1000000000⟩
theorem ok18 (n : LabNet) (down : List Int) (p : LabPacket) : (S18 n down p).ok Try.prog 18 :=
  fnG_ok mixed (fn := Try.f18) (ct := .seqk [(1, 0)] (.no) (.seq (.blk (.seq (.reg [(1, .call 13 (S13 (netB n) n) (oa13 n) none)]) (.cond (.seq (.no) (.no)) (.seq (.reg [(2, .call 53 (S53 (packB n p) n p) (oa53 n p) none)]) (.cond (.seq (.no) (.no)) (.no)))))) (.seq (.reg [(2, .call 54 (S54 p.Stack p.Stack) (oa54 p.Stack) none)]) (.seq (.seqk [(1, 0), (3, 0), (3, 1), (5, 1)] (.no) (.blk (.loop (ι := Nat × (Int × Int × List Int)) (fun i => (fun (v27 : Int) (p1 : Int) (p2 : List Int) => (⟨[(1, some (.h 0 0)), (3, some (.p 1 0)), (5, some (.p 4 0)), (6, some (.p 6 0)), (27, some (.v (vI v27)))], [(0, some (.shr none (.l 1 eInt down))), (1, some (.box 26 [.h 2 0, .h 3 0])), (2, some (.shr none (.l 2 eLabLink n.Links))), (3, some (.shr none (.l 2 eLabBox n.Boxes))), (4, some (.box 39 [.v (vI p1), .h 5 0])), (5, some (.own 5 (.l 1 eInt p2))), (6, some (.box 39 [.v (vI 0), .v (.slice none 0 0)]))], 7⟩ : St)) i.2.1 i.2.2.1 i.2.2.2) (fun i => runL (F18_s0 n down p) i.1 i.2 = (runL (F18_s0 n down p) ((Int.toNat (200 - 0)) + 1) (0, p.Box, p.Stack)) ∧ (fun (v27 : Int) (p1 : Int) (p2 : List Int) => (Int.toNat (200 - v27) < i.1 ∧ packB n (⟨p1, p2⟩ : LabPacket) = true ∧ (0 ≤ p1 ∧ p1 ≤ (n.Boxes.length : Int) - 1 ∧ (p2.length : Int) ≤ 8) ∧ (0 : Int) ≤ v27)) i.2.1 i.2.2.1 i.2.2.2) (fun i => i.1) (((Int.toNat (200 - 0)) + 1), (0, p.Box, p.Stack)) (fun i => (fun (v27 : Int) (p1 : Int) (p2 : List Int) => (.seq (.no) (.seq (.cond (.no) (.no)) (.seq (.blk (.seq (.no) (.seq (.reg [(3, .call 55 (S55 n down (⟨p1, p2⟩ : LabPacket)) (ok55 n down (⟨p1, p2⟩ : LabPacket)) none)]) (.seq (.no) (.blk (.seq (.no) (.cond (.no) (.seq (.no) (.cond (.seq (.no) (.no)) (.seq (.no) (.no))))))))))) (.reg [(0, .bnd)]))))) i.2.1 i.2.2.1 i.2.2.2)))) (.seq (.seq (.no) (.cond (.seq (.no) (.no)) (.no))) (.seq (.no) (.no))))))) Try.func18 (fun (hpre0 : p.Stack.length ≤ 1000000000) => fun (_ : down.length ≤ 9223372036854775807) => ai (trivial) (ai ((Imps.refl (eLabNet n))) (ai (fun h1 : (!(netB n)) = true => (fun hF : ((⟨0, []⟩ : LabPacket), 0, 1) = (F18 n down p) => ai (congrArg (fun r : LabPacket × Int × Int => (.int .i64 r.1.Box : Value)) hF) (ai ((Imp.nil 1 eInt).trans (Imp.of_eq (congrArg (fun r : LabPacket × Int × Int => Dat.l 1 eInt r.1.Stack) hF))) (ai (congrArg (fun r : LabPacket × Int × Int => (.int .i64 r.2.1 : Value)) hF) (ai (congrArg (fun r : LabPacket × Int × Int => (.int .i64 r.2.2 : Value)) hF) (trivial))))) (condT h1 (rfl))) (fun h1 : (!(netB n)) = false => (fun _ : n.Links.length ≤ 14 => (fun _ : n.Boxes.length ≤ 8 => (fun _ : NetOk n => ai (((by omega : n.Boxes.length ≤ 9223372036854775807))) (ai ((Imps.refl (eLabNet n))) (ai ((Imps.refl (eLabPacket p))) (ai (fun h2 : (!(packB n p)) = true => (fun hF : ((⟨0, []⟩ : LabPacket), 0, 2) = (F18 n down p) => ai (congrArg (fun r : LabPacket × Int × Int => (.int .i64 r.1.Box : Value)) hF) (ai ((Imp.nil 1 eInt).trans (Imp.of_eq (congrArg (fun r : LabPacket × Int × Int => Dat.l 1 eInt r.1.Stack) hF))) (ai (congrArg (fun r : LabPacket × Int × Int => (.int .i64 r.2.1 : Value)) hF) (ai (congrArg (fun r : LabPacket × Int × Int => (.int .i64 r.2.2 : Value)) hF) (trivial))))) (condF h1 (condT h2 (rfl)))) (fun h2 : (!(packB n p)) = false => (fun _ : 0 ≤ p.Box ∧ p.Box ≤ (n.Boxes.length : Int) - 1 ∧ (p.Stack.length : Int) ≤ 8 => (fun _ : packB n p = true => ai (((by omega : p.Stack.length ≤ 1000000000))) (ai ((Imp.refl (.l 1 eInt p.Stack))) (fun (_ : down.length ≤ 9223372036854775807) => fun (_ : n.Links.length ≤ 9223372036854775807) => fun (_ : n.Boxes.length ≤ 9223372036854775807) => fun (_ : p.Stack.length ≤ 9223372036854775807) => ai (ai (rfl) (ai ((Imp.refl _)) (ai ((Imp.refl _)) (ai ((Imp.refl _)) (ai (rfl) (ai ((Imp.refl _)) (ai (rfl) (ai (rfl) ((ai (rfl : runL (F18_s0 n down p) ((Int.toNat (200 - 0)) + 1) (0, p.Box, p.Stack) = (runL (F18_s0 n down p) ((Int.toNat (200 - 0)) + 1) (0, p.Box, p.Stack))) (ai ((Nat.lt_succ_self _ : Int.toNat (200 - 0) < ((Int.toNat (200 - 0)) + 1))) (ai ((by first | omega | (simp only [lens] at * <;> omega) | assumption : packB n (⟨p.Box, p.Stack⟩ : LabPacket) = true)) (ai ((by first | omega | (simp only [lens] at * <;> omega) | assumption : 0 ≤ p.Box ∧ p.Box ≤ (n.Boxes.length : Int) - 1 ∧ (p.Stack.length : Int) ≤ 8)) ((by first | omega | (simp only [lens] at * <;> omega) | assumption : (0 : Int) ≤ 0)))))))))))))) : ((.int .i64 0 : Value) = .int .i64 0) ∧ (Imp (.l 1 eInt down) (.l 1 eInt down)) ∧ (Imp (.l 2 eLabLink n.Links) (.l 2 eLabLink n.Links)) ∧ (Imp (.l 2 eLabBox n.Boxes) (.l 2 eLabBox n.Boxes)) ∧ ((.int .i64 p.Box : Value) = .int .i64 p.Box) ∧ (Imp (.l 1 eInt p.Stack) (.l 1 eInt p.Stack)) ∧ ((.int .i64 0 : Value) = .int .i64 0) ∧ ((.slice none 0 0 : Value) = .slice none 0 0) ∧ (runL (F18_s0 n down p) ((Int.toNat (200 - 0)) + 1) (0, p.Box, p.Stack) = (runL (F18_s0 n down p) ((Int.toNat (200 - 0)) + 1) (0, p.Box, p.Stack)) ∧ Int.toNat (200 - 0) < ((Int.toNat (200 - 0)) + 1) ∧ packB n (⟨p.Box, p.Stack⟩ : LabPacket) = true ∧ (0 ≤ p.Box ∧ p.Box ≤ (n.Boxes.length : Int) - 1 ∧ (p.Stack.length : Int) ≤ 8) ∧ (0 : Int) ≤ 0)) (fun (i0 : Nat × (Int × Int × List Int)) (hi0 : runL (F18_s0 n down p) i0.1 i0.2 = (runL (F18_s0 n down p) ((Int.toNat (200 - 0)) + 1) (0, p.Box, p.Stack)) ∧ (fun (v27 : Int) (p1 : Int) (p2 : List Int) => (Int.toNat (200 - v27) < i0.1 ∧ packB n (⟨p1, p2⟩ : LabPacket) = true ∧ (0 ≤ p1 ∧ p1 ≤ (n.Boxes.length : Int) - 1 ∧ (p2.length : Int) ≤ 8) ∧ (0 : Int) ≤ v27)) i0.2.1 i0.2.2.1 i0.2.2.2) => (fun (m0 : Nat) (v27 : Int) (p1 : Int) (p2 : List Int) (hI0 : runL (F18_s0 n down p) (m0 + 1) (v27, p1, p2) = (runL (F18_s0 n down p) ((Int.toNat (200 - 0)) + 1) (0, p.Box, p.Stack))) (_ : Int.toNat (200 - v27) < m0 + 1) (hl0 : m0 < i0.1) (_ : packB n (⟨p1, p2⟩ : LabPacket) = true) (_ : 0 ≤ p1 ∧ p1 ≤ (n.Boxes.length : Int) - 1 ∧ (p2.length : Int) ≤ 8) (_ : (0 : Int) ≤ v27) => ai (fun h4 : (decide (v27 < 200)) = true => (fun _ : v27 < 200 => ai ((ai ((by assumption : NetOk n)) (ai ((by omega : 0 ≤ p1)) (ai ((by omega : p1 < (n.Boxes.length : Int))) ((by omega : p2.length ≤ 8)))))) (ai ((Imps.refl (eLabNet n))) (ai ((Imp.refl (.l 1 eInt down))) (ai ((Imps.refl (eLabPacket (⟨p1, p2⟩ : LabPacket)))) ((fun gv5 : packB n (F55 n down (⟨p1, p2⟩ : LabPacket)).1 = true => (fun gv6 : 0 ≤ (F55 n down (⟨p1, p2⟩ : LabPacket)).1.Box ∧ (F55 n down (⟨p1, p2⟩ : LabPacket)).1.Box ≤ (n.Boxes.length : Int) - 1 ∧ ((F55 n down (⟨p1, p2⟩ : LabPacket)).1.Stack.length : Int) ≤ 8 => ai (fun h7 : ((F55 n down (⟨p1, p2⟩ : LabPacket)).2 == 0) = true => (fun _ : (F55 n down (⟨p1, p2⟩ : LabPacket)).2 = 0 => ai ((by unfold i64ok; omega : i64ok (v27 + 1))) (Exists.intro (p := fun j : Nat × (Int × Int × List Int) => (fun (v27_ : Int) (p1_ : Int) (p2_ : List Int) => (((.int .i64 (v27 + 1) : Value) = .int .i64 v27_) ∧ (Imp (.l 1 eInt down) (.l 1 eInt down)) ∧ (Imp (.l 2 eLabLink n.Links) (.l 2 eLabLink n.Links)) ∧ (Imp (.l 2 eLabBox n.Boxes) (.l 2 eLabBox n.Boxes)) ∧ ((.int .i64 (((F55 n down (⟨p1, p2⟩ : LabPacket)).1).Box) : Value) = .int .i64 p1_) ∧ (Imp (.l 1 eInt (((F55 n down (⟨p1, p2⟩ : LabPacket)).1).Stack)) (.l 1 eInt p2_)) ∧ ((.int .i64 0 : Value) = .int .i64 0) ∧ ((.slice none 0 0 : Value) = .slice none 0 0) ∧ ((runL (F18_s0 n down p) j.1 j.2 = (runL (F18_s0 n down p) ((Int.toNat (200 - 0)) + 1) (0, p.Box, p.Stack)) ∧ Int.toNat (200 - v27_) < j.1 ∧ packB n (⟨p1_, p2_⟩ : LabPacket) = true ∧ (0 ≤ p1_ ∧ p1_ ≤ (n.Boxes.length : Int) - 1 ∧ (p2_.length : Int) ≤ 8) ∧ (0 : Int) ≤ v27_) ∧ j.1 < i0.1))) j.2.1 j.2.2.1 j.2.2.2) (m0, ((v27 + 1), ((F55 n down (⟨p1, p2⟩ : LabPacket)).1).Box, ((F55 n down (⟨p1, p2⟩ : LabPacket)).1).Stack)) (ai (rfl) (ai ((Imp.refl _)) (ai ((Imp.refl _)) (ai ((Imp.refl _)) (ai (rfl) (ai ((Imp.refl _)) (ai (rfl) (ai (rfl) (ai (ai (runL_next hI0 (condT h4 (condT h7 (rfl)))) (ai ((by first | omega | (simp only [lens] at * <;> omega) | assumption : Int.toNat (200 - (v27 + 1)) < m0)) (ai ((by first | omega | (simp only [lens] at * <;> omega) | assumption : packB n (⟨(((F55 n down (⟨p1, p2⟩ : LabPacket)).1).Box), (((F55 n down (⟨p1, p2⟩ : LabPacket)).1).Stack)⟩ : LabPacket) = true)) (ai ((by first | omega | (simp only [lens] at * <;> omega) | assumption : 0 ≤ (((F55 n down (⟨p1, p2⟩ : LabPacket)).1).Box) ∧ (((F55 n down (⟨p1, p2⟩ : LabPacket)).1).Box) ≤ (n.Boxes.length : Int) - 1 ∧ ((((F55 n down (⟨p1, p2⟩ : LabPacket)).1).Stack).length : Int) ≤ 8)) ((by first | omega | (simp only [lens] at * <;> omega) | assumption : (0 : Int) ≤ (v27 + 1))))))) hl0))))))))))) (eq_of_beq h7)) (fun h7 : ((F55 n down (⟨p1, p2⟩ : LabPacket)).2 == 0) = false => (fun _ : ¬ (F55 n down (⟨p1, p2⟩ : LabPacket)).2 = 0 => ai (fun h8 : ((F55 n down (⟨p1, p2⟩ : LabPacket)).2 == 3) = true => (fun _ : (F55 n down (⟨p1, p2⟩ : LabPacket)).2 = 3 => (fun hF : ((⟨p1, p2⟩ : LabPacket), v27, 0) = (F18 n down p) => ai (congrArg (fun r : LabPacket × Int × Int => (.int .i64 r.1.Box : Value)) hF) (ai (Imp.of_eq (congrArg (fun r : LabPacket × Int × Int => Dat.l 1 eInt r.1.Stack) hF)) (ai (congrArg (fun r : LabPacket × Int × Int => (.int .i64 r.2.1 : Value)) hF) (ai (congrArg (fun r : LabPacket × Int × Int => (.int .i64 r.2.2 : Value)) hF) (trivial))))) (condF h1 (condF h2 (finR (runL_ret hI0 (condT h4 (condF h7 (condT h8 (rfl))))) rfl)))) (eq_of_beq h8)) (fun h8 : ((F55 n down (⟨p1, p2⟩ : LabPacket)).2 == 3) = false => (fun _ : ¬ (F55 n down (⟨p1, p2⟩ : LabPacket)).2 = 3 => (fun hF : ((⟨p1, p2⟩ : LabPacket), v27, (F55 n down (⟨p1, p2⟩ : LabPacket)).2) = (F18 n down p) => ai (congrArg (fun r : LabPacket × Int × Int => (.int .i64 r.1.Box : Value)) hF) (ai (Imp.of_eq (congrArg (fun r : LabPacket × Int × Int => Dat.l 1 eInt r.1.Stack) hF)) (ai (congrArg (fun r : LabPacket × Int × Int => (.int .i64 r.2.1 : Value)) hF) (ai (congrArg (fun r : LabPacket × Int × Int => (.int .i64 r.2.2 : Value)) hF) (trivial))))) (condF h1 (condF h2 (finR (runL_ret hI0 (condT h4 (condF h7 (condF h8 (rfl))))) rfl)))) (beqF h8))) (beqF h7))) (step_range n down (⟨p1, p2⟩ : LabPacket) (by assumption : NetOk n) (by first | assumption | omega : packB n (⟨p1, p2⟩ : LabPacket) = true))) (step_pack' n down (⟨p1, p2⟩ : LabPacket) (by assumption : NetOk n) (by first | assumption | omega : packB n (⟨p1, p2⟩ : LabPacket) = true))))))) (of_decide_eq_true h4)) (fun h4 : (decide (v27 < 200)) = false => (fun _ : ¬ v27 < 200 => (fun hD0_9 : (runL (F18_s0 n down p) ((Int.toNat (200 - 0)) + 1) (0, p.Box, p.Stack)) = Lp.done (v27, p1, p2) => ai (fun h10 : ((p2.length : Int) == 0) = true => (fun _ : (p2.length : Int) = 0 => (fun hF : ((⟨p1, p2⟩ : LabPacket), 200, 0) = (F18 n down p) => ai (congrArg (fun r : LabPacket × Int × Int => (.int .i64 r.1.Box : Value)) hF) (ai (Imp.of_eq (congrArg (fun r : LabPacket × Int × Int => Dat.l 1 eInt r.1.Stack) hF)) (ai (congrArg (fun r : LabPacket × Int × Int => (.int .i64 r.2.1 : Value)) hF) (ai (congrArg (fun r : LabPacket × Int × Int => (.int .i64 r.2.2 : Value)) hF) (trivial))))) (condF h1 (condF h2 (finD hD0_9 (condT h10 (rfl)))))) (eq_of_beq h10)) (fun h10 : ((p2.length : Int) == 0) = false => (fun _ : ¬ (p2.length : Int) = 0 => (fun hF : ((⟨p1, p2⟩ : LabPacket), 200, 6) = (F18 n down p) => ai (congrArg (fun r : LabPacket × Int × Int => (.int .i64 r.1.Box : Value)) hF) (ai (Imp.of_eq (congrArg (fun r : LabPacket × Int × Int => Dat.l 1 eInt r.1.Stack) hF)) (ai (congrArg (fun r : LabPacket × Int × Int => (.int .i64 r.2.1 : Value)) hF) (ai (congrArg (fun r : LabPacket × Int × Int => (.int .i64 r.2.2 : Value)) hF) (trivial))))) (condF h1 (condF h2 (finD hD0_9 (condF h10 (rfl)))))) (beqF h10))) (runL_done hI0 (condF h4 (rfl)))) (of_decide_eq_false h4))) (i0.1 - 1) i0.2.1 i0.2.2.1 i0.2.2.2 (hd1 hi0.1 hi0.2.1) (hd2 hi0.2.1) (hd3 hi0.2.1) hi0.2.2.1 hi0.2.2.2.1 hi0.2.2.2.2)))) (packB_id n p (notEF h2))) (packB_T n p (notEF h2))))))) (netB_T n (notEF h1))) (netB_8 n (notEF h1))) (netB_14 n (notEF h1)))))) (by kernel_rfl)
def F32_s1 (n : LabNet) (paths : List (List Int)) (stack : List Int) (down : Int) : (Int × Bool × Int) → Lp (Int × Bool × Int) Bool := fun (want, way, i40) =>
  bif (decide (i40 < (paths.length : Int))) then (.next ((IntKind.i64.wrap ((IntKind.i64.wrap (want + ((paths.getD (Int.toNat i40) default).length : Int))) + (F74 n (paths.getD (Int.toNat i40) default) down))), (bif way then decide ((F74 n (paths.getD (Int.toNat i40) default) down) ≥ 0) else false), (i40 + 1))) else (.done (want, way, i40))
def F32_s0 (n : LabNet) (paths : List (List Int)) (stack : List Int) : Int → Lp Int Bool := fun down =>
  bif (decide (down < (n.Links.length : Int))) then ((runL (F32_s1 n paths stack down) ((Int.toNat ((paths.length : Int) - 0)) + 1) (0, true, 0)).fin Lp.ret (fun (want, way, i40) => bif (bif (bif way then (bif (bif (bif ((F18 n ([down] : List Int) (⟨((paths.getD (Int.toNat 0) default).getD (Int.toNat 0) default), stack⟩ : LabPacket)).2.2 != 0) then true else ((F18 n ([down] : List Int) (⟨((paths.getD (Int.toNat 0) default).getD (Int.toNat 0) default), stack⟩ : LabPacket)).2.1 != want)) then true else (((F18 n ([down] : List Int) (⟨((paths.getD (Int.toNat 0) default).getD (Int.toNat 0) default), stack⟩ : LabPacket)).1).Box != ((paths.getD (Int.toNat ((paths.length : Int) - 1)) default).getD (Int.toNat (((paths.getD (Int.toNat ((paths.length : Int) - 1)) default).length : Int) - 1)) default))) then true else (((((F18 n ([down] : List Int) (⟨((paths.getD (Int.toNat 0) default).getD (Int.toNat 0) default), stack⟩ : LabPacket)).1).Stack).length : Int) != 0)) else false) then true else (bif (!way) then ((F18 n ([down] : List Int) (⟨((paths.getD (Int.toNat 0) default).getD (Int.toNat 0) default), stack⟩ : LabPacket)).2.2 != 5) else false)) then (.ret false) else (.next (down + 1)))) else (.done down)
def F32 (n : LabNet) (paths : List (List Int)) (stack : List Int) : Bool :=
  (runL (F32_s0 n paths stack) ((Int.toNat ((n.Links.length : Int) - (-1))) + 1) (-1)).fin (fun r => r) (fun down => true)
def S32 (n : LabNet) (paths : List (List Int)) (stack : List Int) : Spec := ⟨[.r (.g (eLabNet n)), .r (.c (.l 1 (eL 1 eInt) paths)), .r (.c (.l 1 eInt stack))], .v (.bool (F32 n paths stack)), 1 ≤ paths.length ∧ paths.length ≤ 1000000000 ∧ 1 ≤ (paths.getD (Int.toNat 0) default).length ∧ 1 ≤ (paths.getD (Int.toNat ((paths.length : Int) - 1)) default).length ∧ (∀ k : Nat, (paths.getD k default).length ≤ 1000000000) ∧ stack.length ≤ 1000000000⟩
theorem ok32 (n : LabNet) (paths : List (List Int)) (stack : List Int) : (S32 n paths stack).ok Try.prog 32 :=
  fnG_ok mixed (fn := Try.f32) (ct := .seqk [(1, 0), (2, 0)] (.no) (.seq (.no) (.seq (.reg [(3, .bnd)]) (.seq (.seqk [(1, 0), (2, 0), (3, 0), (3, 1), (7, 0), (8, 0)] (.no) (.blk (.loop (ι := Nat × Int) (fun i => (fun (down : Int) => (⟨[(1, some (.h 0 0)), (2, some (.h 1 0)), (3, some (.p 2 0)), (7, some (.h 5 1)), (8, some (.h 6 1)), (9, some (.v (vI down)))], [(0, some (.shr none (.l 1 (eL 1 eInt) paths))), (1, some (.shr none (.l 1 eInt stack))), (2, some (.box 26 [.h 3 0, .h 4 0])), (3, some (.shr none (.l 2 eLabLink n.Links))), (4, some (.shr none (.l 2 eLabBox n.Boxes))), (5, some (.mem none none ([.l 1 eInt (paths.getD (Int.toNat 0) default)]))), (6, some (.mem none none ([.l 1 eInt (paths.getD (Int.toNat ((paths.length : Int) - 1)) default)])))], 7⟩ : St)) i.2) (fun i => runL (F32_s0 n paths stack) i.1 i.2 = (runL (F32_s0 n paths stack) ((Int.toNat ((n.Links.length : Int) - (-1))) + 1) (-1)) ∧ (fun (down : Int) => (Int.toNat ((n.Links.length : Int) - down) < i.1 ∧ (-1 : Int) ≤ down)) i.2) (fun i => i.1) (((Int.toNat ((n.Links.length : Int) - (-1))) + 1), (-1)) (fun i => (fun (down : Int) => (.seq (.seq (.no) (.cond (.no) (.no))) (.seq (.blk (.seq (.no) (.seq (.no) (.seq (.seqk [(1, 0), (3, 0), (3, 1)] (.no) (.blk (.loop (ι := Nat × (Int × Bool × Int)) (fun i => (fun (want : Int) (way : Bool) (i40 : Int) => (⟨[(1, some (.h 0 0)), (2, some (.h 1 0)), (3, some (.p 2 0)), (7, some (.h 5 1)), (8, some (.h 6 1)), (9, some (.v (vI down))), (10, some (.v (vI want))), (11, some (.v (.bool way))), (12, some (.v (vI i40)))], [(0, some (.shr none (.l 1 (eL 1 eInt) paths))), (1, some (.shr none (.l 1 eInt stack))), (2, some (.box 26 [.h 3 0, .h 4 0])), (3, some (.shr none (.l 2 eLabLink n.Links))), (4, some (.shr none (.l 2 eLabBox n.Boxes))), (5, some (.mem none none ([.l 1 eInt (paths.getD (Int.toNat 0) default)]))), (6, some (.mem none none ([.l 1 eInt (paths.getD (Int.toNat ((paths.length : Int) - 1)) default)])))], 7⟩ : St)) i.2.1 i.2.2.1 i.2.2.2) (fun i => runL (F32_s1 n paths stack down) i.1 i.2 = (runL (F32_s1 n paths stack down) ((Int.toNat ((paths.length : Int) - 0)) + 1) (0, true, 0)) ∧ (fun (want : Int) (way : Bool) (i40 : Int) => (Int.toNat ((paths.length : Int) - i40) < i.1 ∧ (0 : Int) ≤ i40)) i.2.1 i.2.2.1 i.2.2.2) (fun i => i.1) (((Int.toNat ((paths.length : Int) - 0)) + 1), (0, true, 0)) (fun i => (fun (want : Int) (way : Bool) (i40 : Int) => (.seq (.seq (.no) (.cond (.no) (.no))) (.seq (.blk (.seq (.reg [(6, .call 74 (S74 n (paths.getD (Int.toNat i40) default) down) (ok74 n (paths.getD (Int.toNat i40) default) down) none)]) (.seq (.no) (.no)))) (.reg [(1, .bnd)])))) i.2.1 i.2.2.1 i.2.2.2)))) (.seq (.reg [(2, .dat (.l 1 eInt ([down] : List Int))), (8, .call 18 (S18 n ([down] : List Int) (⟨((paths.getD (Int.toNat 0) default).getD (Int.toNat 0) default), stack⟩ : LabPacket)) (ok18 n ([down] : List Int) (⟨((paths.getD (Int.toNat 0) default).getD (Int.toNat 0) default), stack⟩ : LabPacket)) none)]) (.seq (.reg [(15, .bnd)]) (.cond (.seq (.no) (.no)) (.no)))))))) (.reg [(1, .bnd)])))) i.2)))) (.seq (.no) (.no)))))) Try.func32 (fun (hp : 1 ≤ paths.length ∧ paths.length ≤ 1000000000 ∧ 1 ≤ (paths.getD (Int.toNat 0) default).length ∧ 1 ≤ (paths.getD (Int.toNat ((paths.length : Int) - 1)) default).length ∧ (∀ k : Nat, (paths.getD k default).length ≤ 1000000000) ∧ stack.length ≤ 1000000000) => (fun (hpre0 : 1 ≤ paths.length) (hpre1 : paths.length ≤ 1000000000) (hpre2 : 1 ≤ (paths.getD (Int.toNat 0) default).length) (hpre3 : 1 ≤ (paths.getD (Int.toNat ((paths.length : Int) - 1)) default).length) (hpre4 : ∀ k : Nat, (paths.getD k default).length ≤ 1000000000) (hpre5 : stack.length ≤ 1000000000) => fun (_ : paths.length ≤ 9223372036854775807) => fun (_ : stack.length ≤ 9223372036854775807) => ai ((by omega : 0 ≤ (0 : Int) ∧ (0 : Int) < (paths.length : Int))) (ai ((by unfold i64ok; omega : i64ok ((paths.length : Int) - 1))) (ai ((by omega : 0 ≤ ((paths.length : Int) - 1) ∧ ((paths.length : Int) - 1) < (paths.length : Int))) (fun (_ : paths.length ≤ 9223372036854775807) => fun (_ : stack.length ≤ 9223372036854775807) => fun (_ : n.Links.length ≤ 9223372036854775807) => fun (_ : n.Boxes.length ≤ 9223372036854775807) => fun (_ : (paths.getD (Int.toNat 0) default).length ≤ 9223372036854775807) => fun (_ : (paths.getD (Int.toNat ((paths.length : Int) - 1)) default).length ≤ 9223372036854775807) => ai (ai (rfl) (ai ((Imp.refl _)) (ai ((Imp.refl _)) (ai ((Imp.refl _)) (ai ((Imp.refl _)) (ai ((Imps.refl _)) (ai ((Imps.refl _)) ((ai (rfl : runL (F32_s0 n paths stack) ((Int.toNat ((n.Links.length : Int) - (-1))) + 1) (-1) = (runL (F32_s0 n paths stack) ((Int.toNat ((n.Links.length : Int) - (-1))) + 1) (-1))) (ai ((Nat.lt_succ_self _ : Int.toNat ((n.Links.length : Int) - (-1)) < ((Int.toNat ((n.Links.length : Int) - (-1))) + 1))) ((by omega : (-1 : Int) ≤ (-1)))))))))))) : ((.int .i64 (-1) : Value) = .int .i64 (-1)) ∧ (Imp (.l 1 (eL 1 eInt) paths) (.l 1 (eL 1 eInt) paths)) ∧ (Imp (.l 1 eInt stack) (.l 1 eInt stack)) ∧ (Imp (.l 2 eLabLink n.Links) (.l 2 eLabLink n.Links)) ∧ (Imp (.l 2 eLabBox n.Boxes) (.l 2 eLabBox n.Boxes)) ∧ (Imps ([.l 1 eInt (paths.getD (Int.toNat 0) default)]) ([.l 1 eInt (paths.getD (Int.toNat 0) default)])) ∧ (Imps ([.l 1 eInt (paths.getD (Int.toNat ((paths.length : Int) - 1)) default)]) ([.l 1 eInt (paths.getD (Int.toNat ((paths.length : Int) - 1)) default)])) ∧ (runL (F32_s0 n paths stack) ((Int.toNat ((n.Links.length : Int) - (-1))) + 1) (-1) = (runL (F32_s0 n paths stack) ((Int.toNat ((n.Links.length : Int) - (-1))) + 1) (-1)) ∧ Int.toNat ((n.Links.length : Int) - (-1)) < ((Int.toNat ((n.Links.length : Int) - (-1))) + 1) ∧ (-1 : Int) ≤ (-1))) (fun (i0 : Nat × Int) (hi0 : runL (F32_s0 n paths stack) i0.1 i0.2 = (runL (F32_s0 n paths stack) ((Int.toNat ((n.Links.length : Int) - (-1))) + 1) (-1)) ∧ (fun (down : Int) => (Int.toNat ((n.Links.length : Int) - down) < i0.1 ∧ (-1 : Int) ≤ down)) i0.2) => (fun (m0 : Nat) (down : Int) (hI0 : runL (F32_s0 n paths stack) (m0 + 1) down = (runL (F32_s0 n paths stack) ((Int.toNat ((n.Links.length : Int) - (-1))) + 1) (-1))) (_ : Int.toNat ((n.Links.length : Int) - down) < m0 + 1) (hl0 : m0 < i0.1) (_ : (-1 : Int) ≤ down) => ai (fun h2 : (decide (down < (n.Links.length : Int))) = true => (fun _ : down < (n.Links.length : Int) => fun (_ : paths.length ≤ 9223372036854775807) => fun (_ : n.Links.length ≤ 9223372036854775807) => fun (_ : n.Boxes.length ≤ 9223372036854775807) => ai (ai (rfl) (ai (rfl) (ai (rfl) (ai (rfl) (ai ((Imp.refl _)) (ai ((Imp.refl _)) (ai ((Imp.refl _)) (ai ((Imp.refl _)) (ai ((Imps.refl _)) (ai ((Imps.refl _)) ((ai (rfl : runL (F32_s1 n paths stack down) ((Int.toNat ((paths.length : Int) - 0)) + 1) (0, true, 0) = (runL (F32_s1 n paths stack down) ((Int.toNat ((paths.length : Int) - 0)) + 1) (0, true, 0))) (ai ((Nat.lt_succ_self _ : Int.toNat ((paths.length : Int) - 0) < ((Int.toNat ((paths.length : Int) - 0)) + 1))) ((by omega : (0 : Int) ≤ 0)))))))))))))) : ((.int .i64 down : Value) = .int .i64 down) ∧ ((.int .i64 0 : Value) = .int .i64 0) ∧ ((.bool true : Value) = .bool true) ∧ ((.int .i64 0 : Value) = .int .i64 0) ∧ (Imp (.l 1 (eL 1 eInt) paths) (.l 1 (eL 1 eInt) paths)) ∧ (Imp (.l 1 eInt stack) (.l 1 eInt stack)) ∧ (Imp (.l 2 eLabLink n.Links) (.l 2 eLabLink n.Links)) ∧ (Imp (.l 2 eLabBox n.Boxes) (.l 2 eLabBox n.Boxes)) ∧ (Imps ([.l 1 eInt (paths.getD (Int.toNat 0) default)]) ([.l 1 eInt (paths.getD (Int.toNat 0) default)])) ∧ (Imps ([.l 1 eInt (paths.getD (Int.toNat ((paths.length : Int) - 1)) default)]) ([.l 1 eInt (paths.getD (Int.toNat ((paths.length : Int) - 1)) default)])) ∧ (runL (F32_s1 n paths stack down) ((Int.toNat ((paths.length : Int) - 0)) + 1) (0, true, 0) = (runL (F32_s1 n paths stack down) ((Int.toNat ((paths.length : Int) - 0)) + 1) (0, true, 0)) ∧ Int.toNat ((paths.length : Int) - 0) < ((Int.toNat ((paths.length : Int) - 0)) + 1) ∧ (0 : Int) ≤ 0)) (fun (i1 : Nat × (Int × Bool × Int)) (hi1 : runL (F32_s1 n paths stack down) i1.1 i1.2 = (runL (F32_s1 n paths stack down) ((Int.toNat ((paths.length : Int) - 0)) + 1) (0, true, 0)) ∧ (fun (want : Int) (way : Bool) (i40 : Int) => (Int.toNat ((paths.length : Int) - i40) < i1.1 ∧ (0 : Int) ≤ i40)) i1.2.1 i1.2.2.1 i1.2.2.2) => (fun (m1 : Nat) (want : Int) (way : Bool) (i40 : Int) (hI1 : runL (F32_s1 n paths stack down) (m1 + 1) (want, way, i40) = (runL (F32_s1 n paths stack down) ((Int.toNat ((paths.length : Int) - 0)) + 1) (0, true, 0))) (_ : Int.toNat ((paths.length : Int) - i40) < m1 + 1) (hl1 : m1 < i1.1) (_ : (0 : Int) ≤ i40) => ai (fun h4 : (decide (i40 < (paths.length : Int))) = true => (fun _ : i40 < (paths.length : Int) => ai ((by omega : 0 ≤ i40 ∧ i40 < (paths.length : Int))) (ai (((by first | omega | exact hpre4 _ | (intros; exact Nat.zero_le _) : (paths.getD (Int.toNat i40) default).length ≤ 1000000000))) (ai ((Imps.refl (eLabNet n))) (ai ((Imp.refl (.l 1 eInt (paths.getD (Int.toNat i40) default)))) (ai ((Imp.refl (.v (vI down)))) (ai ((by omega : 0 ≤ i40 ∧ i40 < (paths.length : Int))) (ai ((by unfold i64ok; omega : i64ok (i40 + 1))) (Exists.intro (p := fun j : Nat × (Int × Bool × Int) => (fun (want_ : Int) (way_ : Bool) (i40_ : Int) => (((.int .i64 down : Value) = .int .i64 down) ∧ ((.int .i64 (IntKind.i64.wrap ((IntKind.i64.wrap (want + ((paths.getD (Int.toNat i40) default).length : Int))) + (F74 n (paths.getD (Int.toNat i40) default) down))) : Value) = .int .i64 want_) ∧ ((.bool (bif way then decide ((F74 n (paths.getD (Int.toNat i40) default) down) ≥ 0) else false) : Value) = .bool way_) ∧ ((.int .i64 (i40 + 1) : Value) = .int .i64 i40_) ∧ (Imp (.l 1 (eL 1 eInt) paths) (.l 1 (eL 1 eInt) paths)) ∧ (Imp (.l 1 eInt stack) (.l 1 eInt stack)) ∧ (Imp (.l 2 eLabLink n.Links) (.l 2 eLabLink n.Links)) ∧ (Imp (.l 2 eLabBox n.Boxes) (.l 2 eLabBox n.Boxes)) ∧ (Imps ([.l 1 eInt (paths.getD (Int.toNat 0) default)]) ([.l 1 eInt (paths.getD (Int.toNat 0) default)])) ∧ (Imps ([.l 1 eInt (paths.getD (Int.toNat ((paths.length : Int) - 1)) default)]) ([.l 1 eInt (paths.getD (Int.toNat ((paths.length : Int) - 1)) default)])) ∧ ((runL (F32_s1 n paths stack down) j.1 j.2 = (runL (F32_s1 n paths stack down) ((Int.toNat ((paths.length : Int) - 0)) + 1) (0, true, 0)) ∧ Int.toNat ((paths.length : Int) - i40_) < j.1 ∧ (0 : Int) ≤ i40_) ∧ j.1 < i1.1))) j.2.1 j.2.2.1 j.2.2.2) (m1, ((IntKind.i64.wrap ((IntKind.i64.wrap (want + ((paths.getD (Int.toNat i40) default).length : Int))) + (F74 n (paths.getD (Int.toNat i40) default) down))), (bif way then decide ((F74 n (paths.getD (Int.toNat i40) default) down) ≥ 0) else false), (i40 + 1))) (ai (rfl) (ai (rfl) (ai (rfl) (ai (rfl) (ai ((Imp.refl _)) (ai ((Imp.refl _)) (ai ((Imp.refl _)) (ai ((Imp.refl _)) (ai ((Imps.refl _)) (ai ((Imps.refl _)) (ai (ai (runL_next hI1 (condT h4 (rfl))) (ai ((by omega : Int.toNat ((paths.length : Int) - (i40 + 1)) < m1)) ((by omega : (0 : Int) ≤ (i40 + 1))))) hl1))))))))))))))))))) (of_decide_eq_true h4)) (fun h4 : (decide (i40 < (paths.length : Int))) = false => (fun _ : ¬ i40 < (paths.length : Int) => (fun hD1_5 : (runL (F32_s1 n paths stack down) ((Int.toNat ((paths.length : Int) - 0)) + 1) (0, true, 0)) = Lp.done (want, way, i40) => ai ((BuildOK.mk eInt ([down] : List Int) rfl (by exact ai (Imp.refl _) (trivial)) (fun _ => rfl) : BuildOK 1 1 [.v (vI down)] (.l 1 eInt ([down] : List Int)))) (ai ((by omega : 0 ≤ (0 : Int) ∧ (0 : Int) < ((paths.getD (Int.toNat 0) default).length : Int))) (ai (((by omega : stack.length ≤ 1000000000))) (ai ((Imps.refl (eLabNet n))) (ai ((Imp.refl (.l 1 eInt ([down] : List Int)))) (ai ((Imps.refl (eLabPacket (⟨((paths.getD (Int.toNat 0) default).getD (Int.toNat 0) default), stack⟩ : LabPacket)))) (ai ((fun k7 : (bif ((F18 n ([down] : List Int) (⟨((paths.getD (Int.toNat 0) default).getD (Int.toNat 0) default), stack⟩ : LabPacket)).2.2 != 0) then true else ((F18 n ([down] : List Int) (⟨((paths.getD (Int.toNat 0) default).getD (Int.toNat 0) default), stack⟩ : LabPacket)).2.1 != want)) = false => (fun _ : (F18 n ([down] : List Int) (⟨((paths.getD (Int.toNat 0) default).getD (Int.toNat 0) default), stack⟩ : LabPacket)).2.1 = want => (fun _ : (F18 n ([down] : List Int) (⟨((paths.getD (Int.toNat 0) default).getD (Int.toNat 0) default), stack⟩ : LabPacket)).2.2 = 0 => (fun k6 : way = true => (by unfold i64ok; omega : i64ok (((paths.getD (Int.toNat ((paths.length : Int) - 1)) default).length : Int) - 1)))) (bneF (orF1 k7))) (bneF (orF2 k7)))) (ai ((fun k9 : (bif ((F18 n ([down] : List Int) (⟨((paths.getD (Int.toNat 0) default).getD (Int.toNat 0) default), stack⟩ : LabPacket)).2.2 != 0) then true else ((F18 n ([down] : List Int) (⟨((paths.getD (Int.toNat 0) default).getD (Int.toNat 0) default), stack⟩ : LabPacket)).2.1 != want)) = false => (fun _ : (F18 n ([down] : List Int) (⟨((paths.getD (Int.toNat 0) default).getD (Int.toNat 0) default), stack⟩ : LabPacket)).2.1 = want => (fun _ : (F18 n ([down] : List Int) (⟨((paths.getD (Int.toNat 0) default).getD (Int.toNat 0) default), stack⟩ : LabPacket)).2.2 = 0 => (fun k8 : way = true => (by omega : 0 ≤ (((paths.getD (Int.toNat ((paths.length : Int) - 1)) default).length : Int) - 1) ∧ (((paths.getD (Int.toNat ((paths.length : Int) - 1)) default).length : Int) - 1) < ((paths.getD (Int.toNat ((paths.length : Int) - 1)) default).length : Int)))) (bneF (orF1 k9))) (bneF (orF2 k9)))) (ai (fun h10 : (bif (bif way then (bif (bif (bif ((F18 n ([down] : List Int) (⟨((paths.getD (Int.toNat 0) default).getD (Int.toNat 0) default), stack⟩ : LabPacket)).2.2 != 0) then true else ((F18 n ([down] : List Int) (⟨((paths.getD (Int.toNat 0) default).getD (Int.toNat 0) default), stack⟩ : LabPacket)).2.1 != want)) then true else (((F18 n ([down] : List Int) (⟨((paths.getD (Int.toNat 0) default).getD (Int.toNat 0) default), stack⟩ : LabPacket)).1).Box != ((paths.getD (Int.toNat ((paths.length : Int) - 1)) default).getD (Int.toNat (((paths.getD (Int.toNat ((paths.length : Int) - 1)) default).length : Int) - 1)) default))) then true else (((((F18 n ([down] : List Int) (⟨((paths.getD (Int.toNat 0) default).getD (Int.toNat 0) default), stack⟩ : LabPacket)).1).Stack).length : Int) != 0)) else false) then true else (bif (!way) then ((F18 n ([down] : List Int) (⟨((paths.getD (Int.toNat 0) default).getD (Int.toNat 0) default), stack⟩ : LabPacket)).2.2 != 5) else false)) = true => (fun hF : (false : Bool) = (F32 n paths stack) => ai (congrArg (fun r : Bool => (.bool r : Value)) hF) (trivial)) (finR (runL_ret hI0 (condT h2 (finD hD1_5 (condT h10 (rfl))))) rfl)) (fun h10 : (bif (bif way then (bif (bif (bif ((F18 n ([down] : List Int) (⟨((paths.getD (Int.toNat 0) default).getD (Int.toNat 0) default), stack⟩ : LabPacket)).2.2 != 0) then true else ((F18 n ([down] : List Int) (⟨((paths.getD (Int.toNat 0) default).getD (Int.toNat 0) default), stack⟩ : LabPacket)).2.1 != want)) then true else (((F18 n ([down] : List Int) (⟨((paths.getD (Int.toNat 0) default).getD (Int.toNat 0) default), stack⟩ : LabPacket)).1).Box != ((paths.getD (Int.toNat ((paths.length : Int) - 1)) default).getD (Int.toNat (((paths.getD (Int.toNat ((paths.length : Int) - 1)) default).length : Int) - 1)) default))) then true else (((((F18 n ([down] : List Int) (⟨((paths.getD (Int.toNat 0) default).getD (Int.toNat 0) default), stack⟩ : LabPacket)).1).Stack).length : Int) != 0)) else false) then true else (bif (!way) then ((F18 n ([down] : List Int) (⟨((paths.getD (Int.toNat 0) default).getD (Int.toNat 0) default), stack⟩ : LabPacket)).2.2 != 5) else false)) = false => ai ((by unfold i64ok; omega : i64ok (down + 1))) (Exists.intro (p := fun j : Nat × Int => (fun (down_ : Int) => (((.int .i64 (down + 1) : Value) = .int .i64 down_) ∧ (Imp (.l 1 (eL 1 eInt) paths) (.l 1 (eL 1 eInt) paths)) ∧ (Imp (.l 1 eInt stack) (.l 1 eInt stack)) ∧ (Imp (.l 2 eLabLink n.Links) (.l 2 eLabLink n.Links)) ∧ (Imp (.l 2 eLabBox n.Boxes) (.l 2 eLabBox n.Boxes)) ∧ (Imps ([.l 1 eInt (paths.getD (Int.toNat 0) default)]) ([.l 1 eInt (paths.getD (Int.toNat 0) default)])) ∧ (Imps ([.l 1 eInt (paths.getD (Int.toNat ((paths.length : Int) - 1)) default)]) ([.l 1 eInt (paths.getD (Int.toNat ((paths.length : Int) - 1)) default)])) ∧ ((runL (F32_s0 n paths stack) j.1 j.2 = (runL (F32_s0 n paths stack) ((Int.toNat ((n.Links.length : Int) - (-1))) + 1) (-1)) ∧ Int.toNat ((n.Links.length : Int) - down_) < j.1 ∧ (-1 : Int) ≤ down_) ∧ j.1 < i0.1))) j.2) (m0, (down + 1)) (ai (rfl) (ai ((Imp.refl _)) (ai ((Imp.refl _)) (ai ((Imp.refl _)) (ai ((Imp.refl _)) (ai ((Imps.refl _)) (ai ((Imps.refl _)) (ai (ai (runL_next hI0 (condT h2 (finD hD1_5 (condF h10 (rfl))))) (ai ((by omega : Int.toNat ((n.Links.length : Int) - (down + 1)) < m0)) ((by omega : (-1 : Int) ≤ (down + 1))))) hl0))))))))))))))))))) (runL_done hI1 (condF h4 (rfl)))) (of_decide_eq_false h4))) (i1.1 - 1) i1.2.1 i1.2.2.1 i1.2.2.2 (hd1 hi1.1 hi1.2.1) (hd2 hi1.2.1) (hd3 hi1.2.1) hi1.2.2)) (of_decide_eq_true h2)) (fun h2 : (decide (down < (n.Links.length : Int))) = false => (fun _ : ¬ down < (n.Links.length : Int) => (fun hD0_11 : (runL (F32_s0 n paths stack) ((Int.toNat ((n.Links.length : Int) - (-1))) + 1) (-1)) = Lp.done down => (fun hF : (true : Bool) = (F32 n paths stack) => ai (congrArg (fun r : Bool => (.bool r : Value)) hF) (trivial)) (finD hD0_11 (rfl))) (runL_done hI0 (condF h2 (rfl)))) (of_decide_eq_false h2))) (i0.1 - 1) i0.2 (hd1 hi0.1 hi0.2.1) (hd2 hi0.2.1) (hd3 hi0.2.1) hi0.2.2))))) hp.1 hp.2.1 hp.2.2.1 hp.2.2.2.1 hp.2.2.2.2.1 hp.2.2.2.2.2) (by kernel_rfl)
end Go.Proofs.Ytmiolofjlfnohaa
namespace Go.Proofs.Ytmiolofjlfnohaa
open Go.RowKit
set_option maxRecDepth 100000
set_option linter.unusedVariables false
set_option linter.unusedSimpArgs false
theorem extra_eq (n : LabNet) (p : List Int) (d : Int) : F74 n p d = extra n p d := by
  unfold F74 extra
  have e : Int.toNat ((p.length : Int) - (0 + 1)) + 1 = Int.toNat (((p.length - 1 : Nat) : Int) - 0) + 1 := by omega
  by_cases hp : p.length = 0
  · have : p = [] := List.eq_nil_of_length_eq_zero hp
    subst this
    rfl
  rw [e, search (fun i => decide (linkOf n (p.getD i default) (p.getD (i + 1) default) = d)) (fun i => ((labWay n (p.getD i default) (p.getD (i + 1) default) d).length : Int) - 1) (p.length - 1) _ (fun k hk => by
    have e1 : Int.toNat ((k : Int) + 1) = k + 1 := by omega
    have e2 : decide ((k : Int) + 1 < (p.length : Int)) = true := decide_eq_true (by omega)
    simp only [F74_s0, e2, cond_true, e1, nn, beqD]) (by
    have e2 : decide (((p.length - 1 : Nat) : Int) + 1 < (p.length : Int)) = false := decide_eq_false (by omega)
    simp only [F74_s0, e2, cond_false])]
  all_goals (cases first (fun i => decide (linkOf n (p.getD i default) (p.getD (i + 1) default) = d)) (p.length - 1) <;> rfl)
theorem extra_in (n : LabNet) (p : List Int) (d : Int) : -1 ≤ extra n p d ∧ extra n p d ≤ 8 := by
  unfold extra
  cases first (fun i => decide (linkOf n (p.getD i default) (p.getD (i + 1) default) = d)) (p.length - 1) with
  | none => simp only; omega
  | some i =>
    have := labWay_len n (p.getD i default) (p.getD (i + 1) default) d
    simp only; omega
theorem walk_go2 {n : LabNet} {dn : List Int} {p0 : LabPacket} {c : Int} {q : LabPacket} (hc : (F55 n dn q).2 = c) (hc0 : c ≠ 0) : ∀ (m : Nat) (i : Int) (p : LabPacket), Run n dn m p q → i + (m : Int) < 200 → ∀ fuel, m < fuel →
    runL (F18_s0 n dn p0) fuel (i, p.Box, p.Stack) = .ret (q, i + (m : Int), bif (c == 3) then 0 else c)
  | m, i, p, hr, hi, 0, hf => absurd hf (Nat.not_lt_zero _)
  | 0, i, p, hr, hi, fuel + 1, hf => by
    have hr : p = q := hr
    subst hr
    have h1 : decide (i < 200) = true := decide_eq_true (by omega)
    have h2 : (c == 0) = false := by rw [beqD]; exact decide_eq_false hc0
    simp only [runL, F18_s0, h1, cond_true]
    have hc' : (F55 n dn (⟨p.Box, p.Stack⟩ : LabPacket)).2 = c := hc
    rw [hc', h2, cond_false]
    cases c == 3 <;> simp
  | m + 1, i, p, ⟨x, hx, hr⟩, hi, fuel + 1, hf => by
    have h1 : decide (i < 200) = true := decide_eq_true (by omega)
    have hx' : F55 n dn (⟨p.Box, p.Stack⟩ : LabPacket) = (x, 0) := hx
    simp only [runL, F18_s0, h1, cond_true, hx']
    have := walk_go2 (p0 := p0) hc hc0 m (i + 1) x hr (by omega) fuel (by omega)
    simp only [beq_self_eq_true, cond_true]
    rw [this]
    congr 3
    omega
theorem labWalk_of {n : LabNet} {dn : List Int} {p q : LabPacket} {m : Nat} {c : Int} (hn : NetOk n) (hp : packB n p = true) (hr : Run n dn m p q) (hm : m < 200) (hc : (F55 n dn q).2 = c) (hc0 : c ≠ 0) : F18 n dn p = (q, (m : Int), bif (c == 3) then 0 else c) := by
  unfold F18
  rw [netB_ok.2 hn, hp]
  simp only [Bool.not_true, cond_false]
  have := walk_go2 (p0 := p) hc hc0 m 0 p hr (by omega) (Int.toNat (200 - 0) + 1) (by omega)
  rw [this, Int.zero_add]; rfl
theorem arr_two {n : LabNet} (hn : NetOk n) (hG : ∀ a b : Int, 0 ≤ linkOf n a b → Gd n a b) {a la b lb : List Int} (Ta : Tun n a la) (Tb : Tun n b lb) (ha : PathOk n a) (hb : PathOk n b) (hab : b.getD 0 default = a.getD (a.length - 1) default) (d : Int) :
    (0 ≤ extra n a d ∧ 0 ≤ extra n b d → F18 n [d] (⟨a.getD 0 default, [lb.getD 0 default, la.getD 0 default]⟩ : LabPacket) = ((⟨b.getD (b.length - 1) default, []⟩ : LabPacket), (a.length : Int) + extra n a d + (b.length : Int) + extra n b d, 0)) ∧
    (¬ (0 ≤ extra n a d ∧ 0 ≤ extra n b d) → (F18 n [d] (⟨a.getD 0 default, [lb.getD 0 default, la.getD 0 default]⟩ : LabPacket)).2.2 = 5) := by
  have h2a := ha.two; have h2b := hb.two
  have hra := Ta.rng 0 (by omega)
  have hp : packB n (⟨a.getD 0 default, [lb.getD 0 default, la.getD 0 default]⟩ : LabPacket) = true := packB_of hra.1 hra.2 (by simp) (fun x hx => by
    simp only [List.mem_cons, List.not_mem_nil, or_false] at hx
    rcases hx with rfl | rfl
    · exact Tb.lbl hn (by omega)
    · exact Ta.lbl hn (by omega))
  obtain ⟨a1, a2⟩ := tun_go hn hG Ta ha d [lb.getD 0 default] (by simp)
  obtain ⟨b1, b2⟩ := tun_go hn hG Tb hb d [] (by simp)
  by_cases hA : 0 ≤ extra n a d
  · obtain ⟨m, m1, m2, m3⟩ := a1 hA
    have hq : (⟨a.getD (a.length - 1) default, [lb.getD 0 default]⟩ : LabPacket) = ⟨b.getD 0 default, [] ++ [lb.getD 0 default]⟩ := by rw [hab]; rfl
    rw [hq] at m3
    by_cases hB : 0 ≤ extra n b d
    · obtain ⟨k, k1, k2, k3⟩ := b1 hB
      refine ⟨fun _ => ?_, fun h => absurd ⟨hA, hB⟩ h⟩
      have := labWalk_of hn hp (m3.trans k3) (by omega) (c := 3) (by rw [st_end]) (by decide)
      have h' : F18 n [d] (⟨a.getD 0 default, [lb.getD 0 default, la.getD 0 default]⟩ : LabPacket) = _ := this
      rw [h']
      have e : ((m + k : Nat) : Int) = (a.length : Int) + extra n a d + (b.length : Int) + extra n b d := by omega
      rw [e]; rfl
    · obtain ⟨k, q, k2, k3, k4, _⟩ := b2 (by omega)
      refine ⟨fun h => absurd h.2 hB, fun _ => ?_⟩
      have := labWalk_of hn hp (m3.trans k3) (by omega) (c := 5) (by rw [k4]) (by decide)
      have h' : F18 n [d] (⟨a.getD 0 default, [lb.getD 0 default, la.getD 0 default]⟩ : LabPacket) = _ := this
      rw [h']; rfl
  · obtain ⟨k, q, k2, k3, k4, _⟩ := a2 (by omega)
    refine ⟨fun h => absurd h.1 hA, fun _ => ?_⟩
    have := labWalk_of hn hp k3 (by omega) (c := 5) (by rw [k4]) (by decide)
    have h' : F18 n [d] (⟨a.getD 0 default, [lb.getD 0 default, la.getD 0 default]⟩ : LabPacket) = _ := this
    rw [h']; rfl
theorem down_loop (n : LabNet) (paths : List (List Int)) (stack : List Int) (h : ∀ d : Int, d < (n.Links.length : Int) → F32_s0 n paths stack d = .next (d + 1)) : F32 n paths stack = true := by
  unfold F32
  have hr := runL_rule (step := F32_s0 n paths stack) (fun (k : Nat) (_ : Unit) => (k : Int) - 1) (n.Links.length + 1) (fun _ _ => True) (fun _ => False)
    (fun k _ hk _ => .inl ⟨(), by
      rw [h ((k : Int) - 1) (by omega)]
      congr 1
      omega, trivial⟩)
    (fun _ _ => by
      have e2 : decide (((n.Links.length + 1 : Nat) : Int) - 1 < (n.Links.length : Int)) = false := decide_eq_false (by omega)
      simp only [F32_s0, e2, cond_false]) (n.Links.length + 1) 0 () (by omega) trivial (Int.toNat ((n.Links.length : Int) - (-1)) + 1) (by omega)
  rcases hr with ⟨_, hr, _⟩ | ⟨_, _, hr⟩
  · have hr' : runL (F32_s0 n paths stack) (Int.toNat ((n.Links.length : Int) - (-1)) + 1) (-1) = _ := hr
    rw [hr']; rfl
  · exact hr.elim
theorem arrives_two {n : LabNet} (hn : NetOk n) (hG : ∀ a b : Int, 0 ≤ linkOf n a b → Gd n a b) {a la b lb : List Int} (Ta : Tun n a la) (Tb : Tun n b lb) (ha : PathOk n a) (hb : PathOk n b) (hab : b.getD 0 default = a.getD (a.length - 1) default) :
    F32 n [a, b] [lb.getD 0 default, la.getD 0 default] = true := by
  refine down_loop _ _ _ fun d hd => ?_
  have hma := ha.most; have hmb := hb.most; have h8 := hn.frame.b8
  have h2b := hb.two
  have xa := extra_in n a d; have xb := extra_in n b d
  obtain ⟨w1, w2⟩ := arr_two hn hG Ta Tb ha hb hab d
  have hs : runL (F32_s1 n [a, b] [lb.getD 0 default, la.getD 0 default] d) (Int.toNat ((([a, b] : List (List Int)).length : Int) - 0) + 1) (0, true, 0) =
      .done ((a.length : Int) + extra n a d + (b.length : Int) + extra n b d, (bif decide (extra n a d ≥ 0) then decide (extra n b d ≥ 0) else false), 2) := by
    have e1 : runL (F32_s1 n [a, b] [lb.getD 0 default, la.getD 0 default] d) (Int.toNat ((([a, b] : List (List Int)).length : Int) - 0) + 1) (0, true, 0) =
      .done (IntKind.i64.wrap (IntKind.i64.wrap (IntKind.i64.wrap (IntKind.i64.wrap (0 + (a.length : Int)) + F74 n a d) + (b.length : Int)) + F74 n b d), (bif (bif true then decide (F74 n a d ≥ 0) else false) then decide (F74 n b d ≥ 0) else false), 2) := rfl
    rw [e1, extra_eq, extra_eq, Int.zero_add, wrap_of (n := (a.length : Int)) (by omega) (by omega), wrap_of (n := (a.length : Int) + extra n a d) (by omega) (by omega), wrap_of (n := (a.length : Int) + extra n a d + (b.length : Int)) (by omega) (by omega), wrap_of (by omega) (by omega)]
    rfl
  simp only [F32_s0, decide_eq_true hd, cond_true]
  rw [hs]
  simp only [Lp.fin]
  have hst : (⟨((([a, b] : List (List Int)).getD (Int.toNat 0) default).getD (Int.toNat 0) default), [lb.getD 0 default, la.getD 0 default]⟩ : LabPacket) = ⟨a.getD 0 default, [lb.getD 0 default, la.getD 0 default]⟩ := rfl
  rw [hst]
  have hlast : ((([a, b] : List (List Int)).getD (Int.toNat ((([a, b] : List (List Int)).length : Int) - 1)) default).getD (Int.toNat (((([a, b] : List (List Int)).getD (Int.toNat ((([a, b] : List (List Int)).length : Int) - 1)) default).length : Int) - 1)) default) = b.getD (b.length - 1) default := by
    show b.getD (Int.toNat ((b.length : Int) - 1)) default = _
    congr 1
    omega
  rw [hlast]
  by_cases hA : 0 ≤ extra n a d ∧ 0 ≤ extra n b d
  · rw [w1 hA, decide_eq_true (show extra n a d ≥ 0 from hA.1), decide_eq_true (show extra n b d ≥ 0 from hA.2)]
    simp
  · have h5 := w2 hA
    have hw : (bif decide (extra n a d ≥ 0) then decide (extra n b d ≥ 0) else false) = false := by
      cases hx : (bif decide (extra n a d ≥ 0) then decide (extra n b d ≥ 0) else false) with
      | false => rfl
      | true =>
        simp only [Bool.cond_false_right, Bool.and_eq_true, decide_eq_true_eq] at hx
        exact absurd ⟨hx.1, hx.2⟩ hA
    rw [hw, h5]
    rfl
end Go.Proofs.Ytmiolofjlfnohaa
namespace Go.Proofs.Ytmiolofjlfnohaa
open Go.RowKit
set_option maxRecDepth 100000
set_option linter.unusedVariables false
set_option linter.unusedSimpArgs false
def F7 (codeX : SV) (code : List Int) : Bool :=
  bif (decide ((code.length : Int) > 1048576)) then true else (bif (bif decide ((((F30 codeX code).2.1).length : Int) < 2) then true else decide ((((F30 codeX code).2.2).length : Int) < 2)) then (bif (bif (bif (((labLay ((F30 codeX code).1) ((F30 codeX code).2.1)).2.2 == 2) == decide ((((F30 codeX code).2.1).length : Int) < 2)) then (((labLay ((labLay ((F30 codeX code).1) ((F30 codeX code).2.1)).1) ((F30 codeX code).2.2)).2.2 == 2) == decide ((((F30 codeX code).2.2).length : Int) < 2)) else false) then (bif ((labLay ((F30 codeX code).1) ((F30 codeX code).2.1)).2.2 == 0) then true else ((labLay ((F30 codeX code).1) ((F30 codeX code).2.1)).2.1 == 0)) else false) then (bif ((labLay ((labLay ((F30 codeX code).1) ((F30 codeX code).2.1)).1) ((F30 codeX code).2.2)).2.2 == 0) then true else ((labLay ((labLay ((F30 codeX code).1) ((F30 codeX code).2.1)).1) ((F30 codeX code).2.2)).2.1 == 0)) else false) else (bif (bif ((labLay ((F30 codeX code).1) ((F30 codeX code).2.1)).2.2 == 0) then ((labLay ((labLay ((F30 codeX code).1) ((F30 codeX code).2.1)).1) ((F30 codeX code).2.2)).2.2 == 0) else false) then (F32 (labGuardAll ((labLay ((labLay ((F30 codeX code).1) ((F30 codeX code).2.1)).1) ((F30 codeX code).2.2)).1)) ([(F30 codeX code).2.1, (F30 codeX code).2.2] : List (List Int)) ([(labLay ((labLay ((F30 codeX code).1) ((F30 codeX code).2.1)).1) ((F30 codeX code).2.2)).2.1, (labLay ((F30 codeX code).1) ((F30 codeX code).2.1)).2.1] : List Int)) else false))
def S7 (codeX : SV) (code : List Int) : Spec := ⟨[.vl (sv codeX) (.l 1 eByte code)], .v (.bool (F7 codeX code)), True⟩
theorem ok7 (codeX : SV) (code : List Int) : (S7 codeX code).ok Try.prog 7 :=
  fnG_ok mixed (fn := Try.f7) (ct := .seqk [(0, 0)] (.no) (.seq (.seq (.no) (.cond (.seq (.no) (.no)) (.no))) (.seq (.reg [(1, .call 30 (S30 codeX code) (ok30 codeX code) none)]) (.seq (.reg [(2, .call 31 (S31 (labLay ((F30 codeX code).1) ((F30 codeX code).2.1)) ((F30 codeX code).1) ((F30 codeX code).2.1)) (oa31 ((F30 codeX code).1) ((F30 codeX code).2.1)) none)]) (.seq (.reg [(2, .call 31 (S31 (labLay ((labLay ((F30 codeX code).1) ((F30 codeX code).2.1)).1) ((F30 codeX code).2.2)) ((labLay ((F30 codeX code).1) ((F30 codeX code).2.1)).1) ((F30 codeX code).2.2)) (oa31 ((labLay ((F30 codeX code).1) ((F30 codeX code).2.1)).1) ((F30 codeX code).2.2)) none)]) (.seq (.seq (.no) (.cond (.seq (.no) (.no)) (.no))) (.seq (.reg [(8, .call 33 (S33 (labGuardAll ((labLay ((labLay ((F30 codeX code).1) ((F30 codeX code).2.1)).1) ((F30 codeX code).2.2)).1)) ((labLay ((labLay ((F30 codeX code).1) ((F30 codeX code).2.1)).1) ((F30 codeX code).2.2)).1)) (oa33 ((labLay ((labLay ((F30 codeX code).1) ((F30 codeX code).2.1)).1) ((F30 codeX code).2.2)).1)) none), (11, .dat (.l 1 (eL 1 eInt) ([(F30 codeX code).2.1, (F30 codeX code).2.2] : List (List Int)))), (14, .dat (.l 1 eInt ([(labLay ((labLay ((F30 codeX code).1) ((F30 codeX code).2.1)).1) ((F30 codeX code).2.2)).2.1, (labLay ((F30 codeX code).1) ((F30 codeX code).2.1)).2.1] : List Int))), (15, .call 32 (S32 (labGuardAll ((labLay ((labLay ((F30 codeX code).1) ((F30 codeX code).2.1)).1) ((F30 codeX code).2.2)).1)) ([(F30 codeX code).2.1, (F30 codeX code).2.2] : List (List Int)) ([(labLay ((labLay ((F30 codeX code).1) ((F30 codeX code).2.1)).1) ((F30 codeX code).2.2)).2.1, (labLay ((F30 codeX code).1) ((F30 codeX code).2.1)).2.1] : List Int)) (ok32 (labGuardAll ((labLay ((labLay ((F30 codeX code).1) ((F30 codeX code).2.1)).1) ((F30 codeX code).2.2)).1)) ([(F30 codeX code).2.1, (F30 codeX code).2.2] : List (List Int)) ([(labLay ((labLay ((F30 codeX code).1) ((F30 codeX code).2.1)).1) ((F30 codeX code).2.2)).2.1, (labLay ((F30 codeX code).1) ((F30 codeX code).2.1)).2.1] : List Int)) none)]) (.no)))))))) Try.func7 (fun (_ : True) => fun (_ : code.length ≤ 9223372036854775807) => ai (fun h1 : (decide ((code.length : Int) > 1048576)) = true => (fun _ : (code.length : Int) > 1048576 => (fun hF : (true : Bool) = (F7 codeX code) => ai (congrArg (fun r : Bool => (.bool r : Value)) hF) (trivial)) (condT h1 (rfl))) (of_decide_eq_true h1)) (fun h1 : (decide ((code.length : Int) > 1048576)) = false => (fun _ : ¬ (code.length : Int) > 1048576 => ai (trivial) (ai ((Eq.refl (sv codeX))) (ai ((Imp.refl (.l 1 eByte code))) ((fun gv2 : ((F30 codeX code)).2.1.length ≤ 8 ∧ ((F30 codeX code)).2.2.length ≤ 8 => ai (trivial) (ai ((Imps.refl (eLabNet ((F30 codeX code).1)))) (ai ((Imp.refl (.l 1 eInt ((F30 codeX code).2.1)))) (ai (trivial) (ai ((Imps.refl (eLabNet ((labLay ((F30 codeX code).1) ((F30 codeX code).2.1)).1)))) (ai ((Imp.refl (.l 1 eInt ((F30 codeX code).2.2)))) (ai (fun h3 : (bif decide ((((F30 codeX code).2.1).length : Int) < 2) then true else decide ((((F30 codeX code).2.2).length : Int) < 2)) = true => (fun hF : ((bif (bif (bif (((labLay ((F30 codeX code).1) ((F30 codeX code).2.1)).2.2 == 2) == decide ((((F30 codeX code).2.1).length : Int) < 2)) then (((labLay ((labLay ((F30 codeX code).1) ((F30 codeX code).2.1)).1) ((F30 codeX code).2.2)).2.2 == 2) == decide ((((F30 codeX code).2.2).length : Int) < 2)) else false) then (bif ((labLay ((F30 codeX code).1) ((F30 codeX code).2.1)).2.2 == 0) then true else ((labLay ((F30 codeX code).1) ((F30 codeX code).2.1)).2.1 == 0)) else false) then (bif ((labLay ((labLay ((F30 codeX code).1) ((F30 codeX code).2.1)).1) ((F30 codeX code).2.2)).2.2 == 0) then true else ((labLay ((labLay ((F30 codeX code).1) ((F30 codeX code).2.1)).1) ((F30 codeX code).2.2)).2.1 == 0)) else false) : Bool) = (F7 codeX code) => ai (congrArg (fun r : Bool => (.bool r : Value)) hF) (trivial)) (condF h1 (condT h3 (rfl)))) (fun h3 : (bif decide ((((F30 codeX code).2.1).length : Int) < 2) then true else decide ((((F30 codeX code).2.2).length : Int) < 2)) = false => (fun _ : ¬ (((F30 codeX code).2.2).length : Int) < 2 => (fun _ : ¬ (((F30 codeX code).2.1).length : Int) < 2 => ai ((fun k4 : (bif ((labLay ((F30 codeX code).1) ((F30 codeX code).2.1)).2.2 == 0) then ((labLay ((labLay ((F30 codeX code).1) ((F30 codeX code).2.1)).1) ((F30 codeX code).2.2)).2.2 == 0) else false) = true => (fun _ : (labLay ((labLay ((F30 codeX code).1) ((F30 codeX code).2.1)).1) ((F30 codeX code).2.2)).2.2 = 0 => (fun _ : (labLay ((F30 codeX code).1) ((F30 codeX code).2.1)).2.2 = 0 => trivial) (eq_of_beq (andT1 k4))) (eq_of_beq (andT2 k4)))) (ai ((fun k5 : (bif ((labLay ((F30 codeX code).1) ((F30 codeX code).2.1)).2.2 == 0) then ((labLay ((labLay ((F30 codeX code).1) ((F30 codeX code).2.1)).1) ((F30 codeX code).2.2)).2.2 == 0) else false) = true => (fun _ : (labLay ((labLay ((F30 codeX code).1) ((F30 codeX code).2.1)).1) ((F30 codeX code).2.2)).2.2 = 0 => (fun _ : (labLay ((F30 codeX code).1) ((F30 codeX code).2.1)).2.2 = 0 => (Imps.refl (eLabNet ((labLay ((labLay ((F30 codeX code).1) ((F30 codeX code).2.1)).1) ((F30 codeX code).2.2)).1)))) (eq_of_beq (andT1 k5))) (eq_of_beq (andT2 k5)))) (ai ((fun k6 : (bif ((labLay ((F30 codeX code).1) ((F30 codeX code).2.1)).2.2 == 0) then ((labLay ((labLay ((F30 codeX code).1) ((F30 codeX code).2.1)).1) ((F30 codeX code).2.2)).2.2 == 0) else false) = true => (fun _ : (labLay ((labLay ((F30 codeX code).1) ((F30 codeX code).2.1)).1) ((F30 codeX code).2.2)).2.2 = 0 => (fun _ : (labLay ((F30 codeX code).1) ((F30 codeX code).2.1)).2.2 = 0 => (BuildOK.mk (eL 1 eInt) ([(F30 codeX code).2.1, (F30 codeX code).2.2] : List (List Int)) rfl (by exact ai (Imp.refl _) (ai (Imp.refl _) (trivial))) (fun _ => rfl) : BuildOK 2 1 [.l 1 eInt ((F30 codeX code).2.1), .l 1 eInt ((F30 codeX code).2.2)] (.l 1 (eL 1 eInt) ([(F30 codeX code).2.1, (F30 codeX code).2.2] : List (List Int))))) (eq_of_beq (andT1 k6))) (eq_of_beq (andT2 k6)))) (ai ((fun k7 : (bif ((labLay ((F30 codeX code).1) ((F30 codeX code).2.1)).2.2 == 0) then ((labLay ((labLay ((F30 codeX code).1) ((F30 codeX code).2.1)).1) ((F30 codeX code).2.2)).2.2 == 0) else false) = true => (fun _ : (labLay ((labLay ((F30 codeX code).1) ((F30 codeX code).2.1)).1) ((F30 codeX code).2.2)).2.2 = 0 => (fun _ : (labLay ((F30 codeX code).1) ((F30 codeX code).2.1)).2.2 = 0 => (BuildOK.mk eInt ([(labLay ((labLay ((F30 codeX code).1) ((F30 codeX code).2.1)).1) ((F30 codeX code).2.2)).2.1, (labLay ((F30 codeX code).1) ((F30 codeX code).2.1)).2.1] : List Int) rfl (by exact ai (Imp.refl _) (ai (Imp.refl _) (trivial))) (fun _ => rfl) : BuildOK 2 1 [.v (vI ((labLay ((labLay ((F30 codeX code).1) ((F30 codeX code).2.1)).1) ((F30 codeX code).2.2)).2.1)), .v (vI ((labLay ((F30 codeX code).1) ((F30 codeX code).2.1)).2.1))] (.l 1 eInt ([(labLay ((labLay ((F30 codeX code).1) ((F30 codeX code).2.1)).1) ((F30 codeX code).2.2)).2.1, (labLay ((F30 codeX code).1) ((F30 codeX code).2.1)).2.1] : List Int)))) (eq_of_beq (andT1 k7))) (eq_of_beq (andT2 k7)))) (ai ((fun k8 : (bif ((labLay ((F30 codeX code).1) ((F30 codeX code).2.1)).2.2 == 0) then ((labLay ((labLay ((F30 codeX code).1) ((F30 codeX code).2.1)).1) ((F30 codeX code).2.2)).2.2 == 0) else false) = true => (fun _ : (labLay ((labLay ((F30 codeX code).1) ((F30 codeX code).2.1)).1) ((F30 codeX code).2.2)).2.2 = 0 => (fun _ : (labLay ((F30 codeX code).1) ((F30 codeX code).2.1)).2.2 = 0 => (ai ((by first | omega | exact tp_a (by omega) | exact tp_b (by omega) | exact tp_all (by omega) (by omega) | exact tp_1 (by omega) | exact tp_2 (by omega) | exact tp_3 (by omega) | (simp only [List.length_cons, List.length_nil]; omega) : 1 ≤ ([(F30 codeX code).2.1, (F30 codeX code).2.2] : List (List Int)).length)) (ai ((by first | omega | exact tp_a (by omega) | exact tp_b (by omega) | exact tp_all (by omega) (by omega) | exact tp_1 (by omega) | exact tp_2 (by omega) | exact tp_3 (by omega) | (simp only [List.length_cons, List.length_nil]; omega) : ([(F30 codeX code).2.1, (F30 codeX code).2.2] : List (List Int)).length ≤ 1000000000)) (ai ((by first | omega | exact tp_a (by omega) | exact tp_b (by omega) | exact tp_all (by omega) (by omega) | exact tp_1 (by omega) | exact tp_2 (by omega) | exact tp_3 (by omega) | (simp only [List.length_cons, List.length_nil]; omega) : 1 ≤ (([(F30 codeX code).2.1, (F30 codeX code).2.2] : List (List Int)).getD (Int.toNat 0) default).length)) (ai ((by first | omega | exact tp_a (by omega) | exact tp_b (by omega) | exact tp_all (by omega) (by omega) | exact tp_1 (by omega) | exact tp_2 (by omega) | exact tp_3 (by omega) | (simp only [List.length_cons, List.length_nil]; omega) : 1 ≤ (([(F30 codeX code).2.1, (F30 codeX code).2.2] : List (List Int)).getD (Int.toNat ((([(F30 codeX code).2.1, (F30 codeX code).2.2] : List (List Int)).length : Int) - 1)) default).length)) (ai ((by first | omega | exact tp_a (by omega) | exact tp_b (by omega) | exact tp_all (by omega) (by omega) | exact tp_1 (by omega) | exact tp_2 (by omega) | exact tp_3 (by omega) | (simp only [List.length_cons, List.length_nil]; omega) : ∀ k : Nat, (([(F30 codeX code).2.1, (F30 codeX code).2.2] : List (List Int)).getD k default).length ≤ 1000000000)) ((by first | omega | exact tp_a (by omega) | exact tp_b (by omega) | exact tp_all (by omega) (by omega) | exact tp_1 (by omega) | exact tp_2 (by omega) | exact tp_3 (by omega) | (simp only [List.length_cons, List.length_nil]; omega) : ([(labLay ((labLay ((F30 codeX code).1) ((F30 codeX code).2.1)).1) ((F30 codeX code).2.2)).2.1, (labLay ((F30 codeX code).1) ((F30 codeX code).2.1)).2.1] : List Int).length ≤ 1000000000)))))))) (eq_of_beq (andT1 k8))) (eq_of_beq (andT2 k8)))) (ai ((fun k9 : (bif ((labLay ((F30 codeX code).1) ((F30 codeX code).2.1)).2.2 == 0) then ((labLay ((labLay ((F30 codeX code).1) ((F30 codeX code).2.1)).1) ((F30 codeX code).2.2)).2.2 == 0) else false) = true => (fun _ : (labLay ((labLay ((F30 codeX code).1) ((F30 codeX code).2.1)).1) ((F30 codeX code).2.2)).2.2 = 0 => (fun _ : (labLay ((F30 codeX code).1) ((F30 codeX code).2.1)).2.2 = 0 => (Imps.refl (eLabNet (labGuardAll ((labLay ((labLay ((F30 codeX code).1) ((F30 codeX code).2.1)).1) ((F30 codeX code).2.2)).1))))) (eq_of_beq (andT1 k9))) (eq_of_beq (andT2 k9)))) (ai ((fun k10 : (bif ((labLay ((F30 codeX code).1) ((F30 codeX code).2.1)).2.2 == 0) then ((labLay ((labLay ((F30 codeX code).1) ((F30 codeX code).2.1)).1) ((F30 codeX code).2.2)).2.2 == 0) else false) = true => (fun _ : (labLay ((labLay ((F30 codeX code).1) ((F30 codeX code).2.1)).1) ((F30 codeX code).2.2)).2.2 = 0 => (fun _ : (labLay ((F30 codeX code).1) ((F30 codeX code).2.1)).2.2 = 0 => (Imp.refl (.l 1 (eL 1 eInt) ([(F30 codeX code).2.1, (F30 codeX code).2.2] : List (List Int))))) (eq_of_beq (andT1 k10))) (eq_of_beq (andT2 k10)))) (ai ((fun k11 : (bif ((labLay ((F30 codeX code).1) ((F30 codeX code).2.1)).2.2 == 0) then ((labLay ((labLay ((F30 codeX code).1) ((F30 codeX code).2.1)).1) ((F30 codeX code).2.2)).2.2 == 0) else false) = true => (fun _ : (labLay ((labLay ((F30 codeX code).1) ((F30 codeX code).2.1)).1) ((F30 codeX code).2.2)).2.2 = 0 => (fun _ : (labLay ((F30 codeX code).1) ((F30 codeX code).2.1)).2.2 = 0 => (Imp.refl (.l 1 eInt ([(labLay ((labLay ((F30 codeX code).1) ((F30 codeX code).2.1)).1) ((F30 codeX code).2.2)).2.1, (labLay ((F30 codeX code).1) ((F30 codeX code).2.1)).2.1] : List Int)))) (eq_of_beq (andT1 k11))) (eq_of_beq (andT2 k11)))) ((fun hF : ((bif (bif ((labLay ((F30 codeX code).1) ((F30 codeX code).2.1)).2.2 == 0) then ((labLay ((labLay ((F30 codeX code).1) ((F30 codeX code).2.1)).1) ((F30 codeX code).2.2)).2.2 == 0) else false) then (F32 (labGuardAll ((labLay ((labLay ((F30 codeX code).1) ((F30 codeX code).2.1)).1) ((F30 codeX code).2.2)).1)) ([(F30 codeX code).2.1, (F30 codeX code).2.2] : List (List Int)) ([(labLay ((labLay ((F30 codeX code).1) ((F30 codeX code).2.1)).1) ((F30 codeX code).2.2)).2.1, (labLay ((F30 codeX code).1) ((F30 codeX code).2.1)).2.1] : List Int)) else false) : Bool) = (F7 codeX code) => ai (congrArg (fun r : Bool => (.bool r : Value)) hF) (trivial)) (condF h1 (condF h3 (rfl)))))))))))) (of_decide_eq_false (orF1 h3))) (of_decide_eq_false (orF2 h3)))))))))) (two_b codeX code))))) (of_decide_eq_false h1))) (by kernel_rfl)
end Go.Proofs.Ytmiolofjlfnohaa
namespace Go.Proofs.Ytmiolofjlfnohaa
open Go.RowKit
set_option maxRecDepth 100000
set_option linter.unusedVariables false
set_option linter.unusedSimpArgs false
theorem lay_short {n : LabNet} (hn : NetOk n) {p : List Int} (h : p.length < 2) : labLay n p = (n, 0, 2) := by
  rw [labLay_way hn]
  have hp : pathB n p = false := by
    cases hp : pathB n p with
    | false => rfl
    | true => have := (pathB_ok.1 hp).two; omega
  unfold layR
  rw [hp]; rfl
theorem lay_long {n : LabNet} (hn : NetOk n) (hr : ∀ i : Int, (bx n i).Rows.length ≤ 59) {p : List Int} (hp : PathOk n p) : labLay n p = (laidP n p, (labsOf n p).getD 0 default, 0) := by
  rw [labLay_way hn, (layR_of hn hr hp).2]
theorem PathOk.sub {n n' : LabNet} (hs : Sub n n') {p : List Int} (h : PathOk n p) : PathOk n' p :=
  ⟨h.two, by rw [hs.len]; exact h.most, fun i hi => by rw [hs.len]; exact h.rng i hi, fun i hi => by rw [hs.link]; exact h.lnk i hi, h.inj⟩
theorem plain_7 (codeX : SV) (code : List Int) : F7 codeX code = true := by
  unfold F7
  have h := two_ok codeX code
  generalize F30 codeX code = D at *
  obtain ⟨n, a, b⟩ := D
  simp only at h ⊢
  cases decide ((code.length : Int) > 1048576) with
  | true => rfl
  | false =>
    rw [cond_false]
    have hr0 : ∀ i : Int, (bx n i).Rows.length ≤ 59 := fun i => by rw [(h.bare i).1]; exact Nat.zero_le _
    by_cases ha : a.length < 2
    · rw [lay_short h.net ha]
      have e1 : decide ((a.length : Int) < 2) = true := decide_eq_true (by omega)
      rw [e1]
      simp only [cond_true]
      by_cases hb : b.length < 2
      · rw [lay_short h.net hb, decide_eq_true (by omega : (b.length : Int) < 2)]; rfl
      · rw [lay_long h.net hr0 ((h.pb (by omega)).1.ok (by omega)), decide_eq_false (by omega : ¬ (b.length : Int) < 2)]; rfl
    · have hpa := h.pa.ok (by omega)
      have e1 : decide ((a.length : Int) < 2) = false := decide_eq_false (by omega)
      obtain ⟨hLa, _⟩ := layR_of h.net hr0 hpa
      rw [lay_long h.net hr0 hpa, e1]
      simp only [cond_false]
      have hsa := laid_sub hLa
      have hna : NetOk (laidP n a) := hLa.netTo _ (Nat.le_refl _)
      have hr1 : ∀ i : Int, (bx (laidP n a) i).Rows.length ≤ 1 := fun i => by have := (laid_box hLa i).2.1; rw [(h.bare i).1] at this; exact this
      by_cases hb : b.length < 2
      · rw [lay_short hna hb, decide_eq_true (by omega : (b.length : Int) < 2)]; rfl
      · obtain ⟨hpb, hab⟩ := h.pb (by omega)
        have hpb := (hpb.ok (by omega)).sub hsa
        obtain ⟨hLb, _⟩ := layR_of hna (fun i => by have := hr1 i; omega) hpb
        rw [lay_long hna (fun i => by have := hr1 i; omega) hpb, decide_eq_false (by omega : ¬ (b.length : Int) < 2)]
        have hsb := laid_sub hLb
        have hnb : NetOk (laidP (laidP n a) b) := hLb.netTo _ (Nat.le_refl _)
        have hg2 : ∀ i : Int, (bx (laidP (laidP n a) b) i).Guards = [] := fun i => by rw [(laid_box hLb i).2.2, (laid_box hLa i).2.2, (h.bare i).2]
        have hr2 : ∀ i : Int, (bx (laidP (laidP n a) b) i).Rows.length ≤ 3 := fun i => by have := (laid_box hLb i).2.1; have := hr1 i; omega
        obtain ⟨g1, g2, _, g4⟩ := gAll_all hnb hg2 hr2
        have hall : labGuardAll (laidP (laidP n a) b) = gAll (laidP (laidP n a) b) (laidP (laidP n a) b).Links.length := by
          unfold labGuardAll
          rw [netB_ok.2 hnb]; rfl
        have key := arrives_two g1 (fun x y hl => g4 x y (by rwa [g2.link] at hl)) (((laid_tun hLa).mono hsb).mono g2) ((laid_tun hLb).mono g2) ((hpa.sub hsa).sub hsb |>.sub g2) (hpb.sub hsb |>.sub g2) hab
        simp only [cond_false, beq_self_eq_true, cond_true, hall]
        exact key
end Go.Proofs.Ytmiolofjlfnohaa
namespace Go.Proofs.Ytmiolofjlfnohaa
open Go.RowKit Go.ChangeShapes Go.WideShapes Go.ChangeAt
set_option maxRecDepth 100000
set_option linter.unusedVariables false
theorem op_5 : OpD Try.prog 5 eByte := OpD.byte Try.underlying5
theorem op_22 : OpD Try.prog 22 (fun xs : List Int => [.l 1 eByte xs]) := OpD.slice 1 Try.underlying22 op_5 (fun _ => rfl) (by kernel_rfl) (by decide)
theorem own : ownKnob Try.prog.godebug = none := by kernel_rfl
theorem cfA : Try.prog.inPlace 7 = Rows.fnLabInnerRow.inPlace := by kernel_rfl
theorem cfB : Try.prog.unfollowed 7 = Rows.fnLabInnerRow.unfollowed := by kernel_rfl
theorem cfC : Try.prog.recurses 7 = Rows.fnLabInnerRow.recurses := by kernel_rfl
theorem cfD : Try.prog.varsNamed 7 = Rows.fnLabInnerRow.named := by kernel_rfl
set_option maxRecDepth 100000 in
theorem lifted_FnLabInner (os : Os) (started : os.Started) (H : Type) (enc : TypeId × Value → H) :
    ReturnsInHanded {} Try.checked os 7 .any (Rows.fnLabInnerSpec.pre6 enc Try.prog Try.f7 Rows.fnLabInnerRow.domain false) (Rows.fnLabInnerSpec.post enc Try.prog Try.f7 false true false false) := by
  refine returnsInHanded_of_change (C := Try.checked) own started (by kernel_rfl) Try.func7
    (ChangeSpec.witness6 (enc := enc) (C := Try.checked) false ⟨#[], #[.slice none 0 0], []⟩ 8 (by kernel_rfl) (by kernel_rfl) (by kernel_rfl) (by kernel_rfl)) ?_
  intro W base args ds gs before hval0 hW hcnd _
  have hval : ∀ (j : Nat) t v, Try.f7.params[j]? = some t → args[j]? = some v → Value.okWide Try.prog W .any base t v := hval0
  have hW' := hW
  obtain ⟨p, q, hA0, hV, rfl, hfz, hnd⟩ := hW
  have hA : DataW.TrodAll enc Try.prog W 0 (fun _ => true) true Try.f7.params.toList args.toList ds p := hA0
  rw [Try.params7] at hA hval
  obtain ⟨v0, vs0, d0, ds0, p0, q0, hargs, rfl, rfl, h0, r0⟩ := trodAll_cons hA
  obtain ⟨rfl, rfl, rfl⟩ := trodAll_nil r0
  obtain rfl : args = #[v0] := by cases args; simp_all
  obtain ⟨rfl, rfl⟩ := trodVars_none hV
  obtain ⟨fu0, t0⟩ := h0
  obtain ⟨a0, n0, c0, rfl⟩ := okWide_slice Try.underlying22 (hval 0 22 v0 rfl rfl)
  obtain ⟨x0, u0, us0, e0, o0, -⟩ := op_22 H enc W fu0 _ _ t0
  obtain rfl : u0 = _ := (List.cons.inj e0).1.symm
  have hc := law_call (W := W) (vs := [.slice a0 n0 c0]) (ok7 (⟨a0, n0, c0⟩ : SV) x0) trivial (x := .bool (F7 (⟨a0, n0, c0⟩ : SV) x0)) ⟨_, _, [], [], rfl, ⟨⟨rfl, o0⟩, rfl⟩, ⟨rfl, rfl⟩, rfl, List.nodup_nil⟩ rfl rfl
  rw [plain_7 (⟨a0, n0, c0⟩ : SV) x0] at hc
  refine hc.mono fun e W' ⟨he, hb⟩ => ?_
  subst he
  exact ⟨_, rfl, law_post rfl hW' hb rfl Try.underlying4 rfl rfl rfl laid (by decide +kernel)⟩
theorem proved_FnLabInner : Rows.FnLabInnerSaid :=
  OpenClaim.holds_of_wide 7 Try.f7 rfl rfl rfl rfl rfl rfl rfl ⟨rfl, rfl, rfl, rfl, rfl⟩ rfl rfl rfl rfl rfl (by kernel_rfl) Try.func7 (by
      show joinedFacts Try.prog 7 Try.f7 Rows.fnLabInnerSpec Rows.fnLabInnerRow = true
      simp only [joinedFacts, laid, cfMaps, cfKeys, cfLifts, cfHeard, cfEnter, cfMake, cfA, cfB, cfC, cfD, Bool.and_true]
      kernel_rfl)
    (of_decide_eq_true (by kernel_rfl)) (by unfold Func.isWrapper; first | (rw [if_pos (by decide +kernel)]; kernel_rfl) | (rw [if_neg (by decide +kernel)]; exact ⟨rfl, rfl⟩))
    (fun os started H enc _ => lifted_FnLabInner os started H enc)
#print axioms proved_FnLabInner
end Go.Proofs.Ytmiolofjlfnohaa
