/- The card's statement of FnExactConfDiff: for all arguments the law returns true, without further conditions. Texts put together: PLP, VN0, PN0, VN, PN1N, PCK0, VSZ, PSZ, PSO, VJO, PJO, VDF, PDF, VMK, PMK, PDFL0, VDFL, PDFL, C40. -/
import Derived.Test.YtmoodkjkecjeaacGreatDoorRows
import Derived.Test.YtmoodkjkecjeaacGreatDoorCards
import Derived.Test.YtmoodkjkecjeaacGreatDoorTie
import Derived.Deep.DeepHandedRow
import Derived.Deep.DeepLaidRun
import Derived.JoinedCond
import Derived.Lib.LaidU8
import Derived.Test.YtmoodkjkecjeaacGreatDoorZC40D
namespace Go.Proofs.YtmoodkjkecjeaacGreatDoor
open Go.RowKit
set_option maxRecDepth 100000
set_option linter.unusedVariables false
set_option linter.unusedSimpArgs false
theorem Ty {α σ ρ τ ω : Type} [Inhabited α] (xs : List α) (upd : σ → α → σ) (emb : σ → Int → ω) (step : ω → Lp ω ρ)
  (h1 : ∀ (i : Nat) (s : σ), i < xs.length → step (emb s (i : Int)) = .next (emb (upd s (xs.getD i default)) ((i + 1 : Nat) : Int))) (h2 : ∀ s : σ, step (emb s (xs.length : Int)) = .done (emb s (xs.length : Int)))
  (f : ρ → τ) (g : ω → τ) : ∀ (m i : Nat) (s : σ), i + m = xs.length → ∀ fuel, m < fuel → (runL step fuel (emb s (i : Int))).fin f g = g (emb ((xs.drop i).foldl upd s) (xs.length : Int))
 | m, i, _, _, 0, hf => absurd hf (Nat.not_lt_zero _)
 | 0, i, s, h, fuel + 1, hf => by
  obtain rfl : i = xs.length := by omega
  rw [Kd _ (h2 s), List.drop_of_length_le (Nat.le_refl _)]; rfl
 | m + 1, i, s, h, fuel + 1, hf => by
  have hd : xs.drop i = xs.getD i default :: xs.drop (i + 1) := by
   rw [List.drop_eq_getElem_cons (show i < xs.length by omega), List.getD_eq_getElem?_getD, List.getElem?_eq_getElem (show i < xs.length by omega)]; rfl
  rw [Ur _ (h1 i s (by omega)), Ty xs upd emb step h1 h2 f g m (i + 1) _ (by omega) fuel (by omega), hd, List.foldl_cons]
theorem Kr {α σ ρ τ ω : Type} [Inhabited α] (xs : List α) (upd : σ → α → σ) (emb : σ → Int → ω) (step : ω → Lp ω ρ)
  (h1 : ∀ (i : Nat) (s : σ), i < xs.length → step (emb s (i : Int)) = .next (emb (upd s (xs.getD i default)) ((i + 1 : Nat) : Int))) (h2 : ∀ s : σ, step (emb s (xs.length : Int)) = .done (emb s (xs.length : Int)))
  (f : ρ → τ) (g : ω → τ) (s : σ) : (runL step ((Int.toNat ((xs.length : Int) - 0)) + 1) (emb s 0)).fin f g = g (emb (xs.foldl upd s) (xs.length : Int)) := by
 have := Ty xs upd emb step h1 h2 f g xs.length 0 s (by omega) (Int.toNat ((xs.length : Int) - 0) + 1) (by omega)
 rw [List.drop_zero] at this
 exact this
theorem Ni {α : Type} [Inhabited α] (ws : List α) (p : α → Bool) : ∀ (m i : Nat), i + m = ws.length → anyF (fun k => p (ws.getD k default)) i m = (ws.drop i).any p
 | 0, i, h => by rw [List.drop_of_length_le (by omega)]; rfl
 | m + 1, i, h => by
  have hd : ws.drop i = ws.getD i default :: ws.drop (i + 1) := by
   rw [List.drop_eq_getElem_cons (show i < ws.length by omega), List.getD_eq_getElem?_getD, List.getElem?_eq_getElem (show i < ws.length by omega)]; rfl
  rw [hd, List.any_cons, anyF, Ni ws p m (i + 1) (by omega)]
theorem anyL {α ρ τ : Type} [Inhabited α] (xs : List α) (p : α → Bool) (bad : ρ) (step : Int → Lp Int ρ)
  (h1 : ∀ i : Nat, i < xs.length → step (i : Int) = bif p (xs.getD i default) then .ret bad else .next ((i + 1 : Nat) : Int)) (h2 : step (xs.length : Int) = .done (xs.length : Int))
  (f : ρ → τ) (g : Int → τ) (y : τ) (hg : ∀ i, g i = y) : (runL step ((Int.toNat ((xs.length : Int) - 0)) + 1) 0).fin f g = bif xs.any p then f bad else y := by
 have h := Zy step xs.length (fun k => p (xs.getD k default)) bad f y h1 h2 xs.length 0 (by omega) (Int.toNat ((xs.length : Int) - 0) + 1) (by omega)
 rw [Ni xs p xs.length 0 (by omega), List.drop_zero] at h
 rw [show g = fun _ => y from funext hg]
 exact h
theorem Bc {α β : Type} (p : α → Bool) (f : α → β) : ∀ (xs : List α) (s : List β), xs.foldl (fun s x => bif p x then s ++ [f x] else s) s = s ++ (xs.filter p).map f
 | [], s => by simp
 | x :: xs, s => by
  rw [List.foldl_cons, Bc p f xs]
  cases h : p x with
  | true => rw [cond_true, List.filter_cons_of_pos h, List.map_cons, List.append_assoc]; rfl
  | false => rw [cond_false, List.filter_cons_of_neg (by simp [h])]
theorem Wy {α β : Type} (f : α → β) : ∀ (xs : List α) (s : List β), xs.foldl (fun s x => s ++ [f x]) s = s ++ xs.map f
 | [], s => by simp
 | x :: xs, s => by
  rw [List.foldl_cons, Wy f xs, List.map_cons, List.append_assoc]; rfl
theorem kc22 (line : ByteArray) {K_ : Prop} (p0_ : line.size ≤ 1048576) (k_ : K_) : (line.size ≤ 1048576) ∧ (Imp (.v (.string line)) (.v (.string line))) ∧ K_ := ⟨p0_, Imp.refl _, k_⟩
abbrev kh22 (line : ByteArray) : Hint true Tryz.prog := .call 22 (S22 line) (ok22 line) none
def Jo (lines : List ByteArray) : (List ByteArray × Int) → Lp (List ByteArray × Int) (List ByteArray) := fun (out, i40) =>
 bif (decide (i40 < (lines.length : Int))) then (.next ((out ++ [(F22 (lines.getD (Int.toNat i40) default))]), (i40 + 1))) else (.done (out, i40))
def F16 (lines : List ByteArray) : List ByteArray :=
 (runL (Jo lines) ((Int.toNat ((lines.length : Int) - 0)) + 1) (([] : List ByteArray), 0)).fin (fun r => r) (fun (out, i40) => out)
abbrev Nt (lines : List ByteArray) : Nat × (List ByteArray × Int) := (((Int.toNat ((lines.length : Int) - 0)) + 1), (([] : List ByteArray), 0))
abbrev Qfo (lines : List ByteArray) (m39 : Nat) (out : List ByteArray) (i40 : Int) : Prop := Int.toNat ((lines.length : Int) - i40) < m39 ∧ (out.length : Int) ≤ i40 ∧ (0 : Int) ≤ i40
abbrev Qkt (lines : List ByteArray) : Lp (List ByteArray × Int) (List ByteArray) := LpX (Jo lines) (Nt lines)
abbrev Ma (lines : List ByteArray) (i : Nat × (List ByteArray × Int)) : Prop := LpJ (Jo lines) (Nt lines) i (Qfo lines i.1 i.2.1 i.2.2)
abbrev Qni (lines : List ByteArray) (i : Nat × (List ByteArray × Int)) (m39 : Nat) (out : List ByteArray) (i40 : Int) : Prop := LpH (Jo lines) (Nt lines) i m39 (out, i40) (Qfo lines (m39 + 1) out i40)
abbrev Qpt (lines : List ByteArray) (out : List ByteArray) (i40 : Int) (out_ : List ByteArray) (i40_ : Int) (K39 : Prop) : Prop := ((.int .i64 i40 : Value) = .int .i64 i40_) ∧ (Im (.l 1 eStr lines)) ∧ (Imp (.l 1 eStr out) (.l 1 eStr out_)) ∧ K39
theorem un16_0 (lines : List ByteArray) (i : Nat × (List ByteArray × Int)) (h : Ma lines i) : Qni lines i (i.1 - 1) i.2.1 i.2.2 := ⟨hd1 h.1 h.2.1, hd3 h.2.1, hd2 h.2.1, h.2.2⟩
theorem bk16_0 (lines : List ByteArray) (i : Nat × (List ByteArray × Int)) (m39 : Nat) (out : List ByteArray) (i40 : Int) (hl : m39 < i.1) (e : runL (Jo lines) m39 (out, i40) = Qkt lines) (h : Qfo lines m39 out i40) : ∃ j : Nat × (List ByteArray × Int), Qpt lines out i40 j.2.1 j.2.2 (Ma lines j ∧ j.1 < i.1) := ⟨(m39, (out, i40)), rfl, Imp.refl _, Imp.refl _, ⟨e, h⟩, hl⟩
theorem en16_0 (lines : List ByteArray) (h : (([] : List ByteArray).length : Int) ≤ 0 ∧ (0 : Int) ≤ 0) : Qpt lines ([] : List ByteArray) 0 ([] : List ByteArray) 0 (Ma lines (Nt lines)) := ⟨rfl, Imp.refl _, Imp.refl _, rfl, Nat.lt_succ_self _, h⟩
theorem fi16 (lines : List ByteArray) (r : List ByteArray) (hF : r = (F16 lines)) : (Imp (.l 1 eStr r) (.l 1 eStr (F16 lines))) ∧ True := by cases hF; exact ⟨Imp.refl _, trivial⟩
def S16 (R : List ByteArray) (lines : List ByteArray) : Spec := ⟨[.r (.c (.l 1 eStr lines))], .ow (.l 1 eStr R), lines.length ≤ 1048576 ∧ (∀ k : Nat, (lines.getD k default).size ≤ 1048576)⟩
theorem ok16 (lines : List ByteArray) : (S16 (F16 lines) lines).ok Tryz.prog 16 :=
 Qk mixed (fn := Tryz.f16) (ct := .seqk [(0, 0)] .no (.seq (.reg [(0, .dat (.l 1 eStr ([] : List ByteArray)))]) (.seq (.seqk [(0, 0), (3, 0)] .no (.blk (.loop (ι := Nat × (List ByteArray × Int)) (fun i => (fun (out : List ByteArray) (i40 : Int) => (⟨[(0, some (.h 0 0)), (3, some (.h 1 0)), (4, some (.v (vI i40)))], [(0, some (.shr none (.l 1 eStr lines))), (1, some (.own 1 (.l 1 eStr out)))], 2⟩ : St)) i.2.1 i.2.2) (Ma lines) (fun i => i.1) (Nt lines) (fun i => (fun (out : List ByteArray) (i40 : Int) => (.seq (.seq .no (.cond .no .no)) (.seq (.blk (.reg [(5, kh22 (lines.getD (Int.toNat i40) default)), (7, .dat (.l 1 eStr (out ++ [(F22 (lines.getD (Int.toNat i40) default))])))])) (.reg [(1, .bnd)])))) i.2.1 i.2.2)))) (.seq .no .no)))) Tryz.func16 (fun (hp : lines.length ≤ 1048576 ∧ (∀ k : Nat, (lines.getD k default).size ≤ 1048576)) => have hpre0 := hp.1; have hpre1 := hp.2; kn lines fun _ => ai (bokr 1 eStr ([] : List ByteArray) fun _ => rfl) (kn lines fun _ => kn ([] : List ByteArray) fun _ => ai (en16_0 lines (by refine ⟨?_, ?_⟩ <;> first | omega | (simp only [lens, ib] at * <;> omega))) (fun (i0 : Nat × (List ByteArray × Int)) (hi0 : Ma lines i0) => (fun (m0 : Nat) (out : List ByteArray) (i40 : Int) (hh0 : Qni lines i0 m0 out i40) => have hI0 := hh0.1; have hl0 := hh0.2.1; have _ := hh0.2.2.1; have _ := hh0.2.2.2; ifd (i40 < (lines.length : Int)) (fun h2 _ => ai (by first | omega | (simp only [lens, ib] at * <;> omega) : ib i40 lines) (kc22 (lines.getD (Int.toNat i40) default) (by first | omega | exact hpre1 _ | (intros; exact trivial) | (intros; exact Nat.zero_le _)) (ai (appr 1 eStr out [(F22 (lines.getD (Int.toNat i40) default))] fun _ => rfl) (ai (by (try simp only [lens]); omega : (out ++ [(F22 (lines.getD (Int.toNat i40) default))]).length * 16 ≤ 140737488355328) (ai (iok (i40 + 1) (by first | omega | (simp only [lens, ib] at * <;> omega))) (bk16_0 lines i0 m0 (out ++ [(F22 (lines.getD (Int.toNat i40) default))]) (i40 + 1) hl0 (Qe hI0 (condT h2 rfl)) (by refine ⟨?_, ?_, ?_⟩ <;> first | omega | (simp only [lens, ib] at * <;> omega)))))))) (fun h2 _ => have hD0_3 : Qkt lines = Lp.done (out, i40) := Qn hI0 (condF h2 rfl); fi16 lines out (finD hD0_3 rfl))) (i0.1 - 1) i0.2.1 i0.2.2 (un16_0 lines i0 hi0)))) (by kernel_rfl)
theorem as16 (lines : List ByteArray) : F16 lines = (lines.map F22) := by
 unfold F16
 have := Kr lines (fun (s : List ByteArray) x => s ++ [F22 x]) (fun s i => (s, i)) (Jo lines) (fun i s hi => by
  simp only [Jo, ltD hi, cond_true, nn]; rfl) (fun s => by simp only [Jo, geD, cond_false]) (fun r => r) (fun (out, i40) => out) []
 refine this.trans ?_
 rw [Wy, List.nil_append]
def T16 (R : List ByteArray) (lines : List ByteArray) : Spec := ⟨(S16 R lines).args, (S16 R lines).res, lines.length ≤ 1048576 ∧ (∀ k : Nat, (lines.getD k default).size ≤ 1048576)⟩
theorem oa16 (lines : List ByteArray) : (T16 (lines.map F22) lines).ok Tryz.prog 16 := by
 intro hp; have h := ok16 lines hp; rw [as16 lines] at h; exact h
def F24 (l : ByteArray) : Bool :=
 (!(F25 l))
def S24 (l : ByteArray) : Spec := ⟨[.r (.c (.v (.string l)))], .v (.bool (F24 l)), l.size ≤ 1048576⟩
theorem ok24 (l : ByteArray) : (S24 l).ok Tryz.prog 24 false :=
 Qk mixed (fn := Tryz.f24) (ct := .seq .no (.seq (.reg [(1, kh25 l)]) .no)) Tryz.func24 (fun (hpre0 : l.size ≤ 1048576) => kc25 l (by omega) (fiB (!(F25 l)) (F24 l) rfl)) (by kernel_rfl)
theorem kc26 (line : ByteArray) {K_ : Prop} (p0_ : line.size ≤ 1048576) (k_ : K_) : (line.size ≤ 1048576) ∧ (Imp (.v (.string line)) (.v (.string line))) ∧ K_ := ⟨p0_, Imp.refl _, k_⟩
abbrev kh26 (line : ByteArray) : Hint false Tryz.prog := .call 26 (S26 line) (ok26 line) none
def Ju (lines : List ByteArray) : (Int × ML Bool) → Lp (Int × ML Bool) Int := fun (v31, ms) =>
 bif (decide (v31 < (lines.length : Int))) then (.next ((v31 + 1), (putM ms (F26 (lines.getD (Int.toNat v31) default)) true))) else (.done (v31, ms))
def Mw (lines : List ByteArray) : Lp (ML Bool) Int :=
 (runL (Ju lines) ((Int.toNat ((lines.length : Int) - 0)) + 1) (0, ([] : ML Bool))).fin Lp.ret (fun (v31, ms) => .done ms)
def Gr (lines : List ByteArray) : Int → Lp Int Int := fun i40 =>
 bif (decide (i40 < (lines.length : Int))) then (bif (!(Op.bytesLess (lines.getD (Int.toNat (i40 - 1)) default).toList (lines.getD (Int.toNat i40) default).toList)) then (.ret 3) else (.next (i40 + 1))) else (.done i40)
def F18 (lines : List ByteArray) : Int :=
 bif (decide ((lines.length : Int) > 16)) then 1 else (bif (lines.any (fun (x0 : ByteArray) => F24 x0)) then 2 else ((runL (Gr lines) ((Int.toNat ((lines.length : Int) - 1)) + 1) 1).fin (fun r => r) (fun i40 => (Mw lines).fin (fun r => r) (fun keys => bif (decide ((keys.length : Int) < (lines.length : Int))) then 4 else 0))))
abbrev Pl (lines : List ByteArray) : Nat × (Int × ML Bool) := (((Int.toNat ((lines.length : Int) - 0)) + 1), (0, ([] : ML Bool)))
abbrev Qfq (lines : List ByteArray) (m39 : Nat) (v31 : Int) (ms : ML Bool) : Prop := Int.toNat ((lines.length : Int) - v31) < m39 ∧ (0 : Int) ≤ v31
abbrev Qka (lines : List ByteArray) : Lp (Int × ML Bool) Int := LpX (Ju lines) (Pl lines)
abbrev Ns (lines : List ByteArray) (i : Nat × (Int × ML Bool)) : Prop := LpJ (Ju lines) (Pl lines) i (Qfq lines i.1 i.2.1 i.2.2)
abbrev Qoc (lines : List ByteArray) (i : Nat × (Int × ML Bool)) (m39 : Nat) (v31 : Int) (ms : ML Bool) : Prop := LpH (Ju lines) (Pl lines) i m39 (v31, ms) (Qfq lines (m39 + 1) v31 ms)
abbrev Qpi (lines : List ByteArray) (v31 : Int) (ms : ML Bool) (v31_ : Int) (ms_ : ML Bool) (K39 : Prop) : Prop := (Rf (.int .i64 (lines.length : Int))) ∧ ((.int .i64 v31 : Value) = .int .i64 v31_) ∧ (Im (.l 1 eStr lines)) ∧ (Imp (.x (MX Value.bool ms)) (.x (MX Value.bool ms_))) ∧ K39
theorem un18_1 (lines : List ByteArray) (i : Nat × (Int × ML Bool)) (h : Ns lines i) : Qoc lines i (i.1 - 1) i.2.1 i.2.2 := ⟨hd1 h.1 h.2.1, hd3 h.2.1, hd2 h.2.1, h.2.2⟩
theorem bk18_1 (lines : List ByteArray) (i : Nat × (Int × ML Bool)) (m39 : Nat) (v31 : Int) (ms : ML Bool) (hl : m39 < i.1) (e : runL (Ju lines) m39 (v31, ms) = Qka lines) (h : Qfq lines m39 v31 ms) : ∃ j : Nat × (Int × ML Bool), Qpi lines v31 ms j.2.1 j.2.2 (Ns lines j ∧ j.1 < i.1) := ⟨(m39, (v31, ms)), rfl, rfl, Imp.refl _, Imp.refl _, ⟨e, h⟩, hl⟩
theorem en18_1 (lines : List ByteArray) (h : (0 : Int) ≤ 0) : Qpi lines 0 ([] : ML Bool) 0 ([] : ML Bool) (Ns lines (Pl lines)) := ⟨rfl, rfl, Imp.refl _, Imp.refl _, rfl, Nat.lt_succ_self _, h⟩
abbrev Qdu (lines : List ByteArray) (j : ML Bool) : Prop := (Mw lines) = Lp.done j
theorem jn18_0 (lines : List ByteArray) (keys : ML Bool) (e : (Mw lines) = Lp.done keys) : ∃ j : ML Bool, (Imp (.l 1 eStr lines) (.l 1 eStr lines)) ∧ (Imp (.x (MX Value.bool keys)) (.x (MX Value.bool j))) ∧ Qdu lines j := ⟨keys, Imp.refl _, Imp.refl _, e⟩
abbrev Lk (lines : List ByteArray) : Nat × Int := (((Int.toNat ((lines.length : Int) - 1)) + 1), 1)
abbrev Qfw (lines : List ByteArray) (m39 : Nat) (i40 : Int) : Prop := Int.toNat ((lines.length : Int) - i40) < m39 ∧ (1 : Int) ≤ i40 ∧ (0 : Int) ≤ i40
abbrev Qnk (lines : List ByteArray) : Lp Int Int := LpX (Gr lines) (Lk lines)
abbrev Lv (lines : List ByteArray) (i : Nat × Int) : Prop := LpJ (Gr lines) (Lk lines) i (Qfw lines i.1 i.2)
abbrev Qpj (lines : List ByteArray) (i : Nat × Int) (m39 : Nat) (i40 : Int) : Prop := LpH (Gr lines) (Lk lines) i m39 i40 (Qfw lines (m39 + 1) i40)
abbrev Qof (lines : List ByteArray) (i40 : Int) (i40_ : Int) (K39 : Prop) : Prop := ((.int .i64 i40 : Value) = .int .i64 i40_) ∧ (Im (.l 1 eStr lines)) ∧ K39
theorem un18_0 (lines : List ByteArray) (i : Nat × Int) (h : Lv lines i) : Qpj lines i (i.1 - 1) i.2 := ⟨hd1 h.1 h.2.1, hd3 h.2.1, hd2 h.2.1, h.2.2⟩
theorem bk18_0 (lines : List ByteArray) (i : Nat × Int) (m39 : Nat) (i40 : Int) (hl : m39 < i.1) (e : runL (Gr lines) m39 i40 = Qnk lines) (h : Qfw lines m39 i40) : ∃ j : Nat × Int, Qof lines i40 j.2 (Lv lines j ∧ j.1 < i.1) := ⟨(m39, i40), rfl, Imp.refl _, ⟨e, h⟩, hl⟩
theorem en18_0 (lines : List ByteArray) (h : (1 : Int) ≤ 1 ∧ (0 : Int) ≤ 1) : Qof lines 1 1 (Lv lines (Lk lines)) := ⟨rfl, Imp.refl _, rfl, Nat.lt_succ_self _, h⟩
def S18 (lines : List ByteArray) : Spec := ⟨[.r (.c (.l 1 eStr lines))], .v (vI (F18 lines)), (∀ k : Nat, (lines.getD k default).size ≤ 1048576)⟩
theorem ok18 (lines : List ByteArray) : (S18 lines).ok Tryz.prog 18 false :=
 Qk mixed (fn := Tryz.f18) (ct := .seqk [(0, 0)] .no (.seq (.seq .no (.cond (.seq .no .no) .no)) (.seq (.seq (.reg [(1, .call 23 (S23 (lines.any (fun (x0 : ByteArray) => F24 x0)) lines (fun (x0 : ByteArray) => F24 x0) (fun (x0 : ByteArray) => x0.size ≤ 1048576)) (oa23 lines (fun (x0 : ByteArray) => F24 x0) (fun (x0 : ByteArray) => x0.size ≤ 1048576)) (some ⟨false, 24, Yq (fun (x0 : ByteArray) => x0.size ≤ 1048576) (fun (x0 : ByteArray) => F24 x0), [], rfl, True, fun i => Qoy (ok24 i)⟩))]) (.cond (.seq .no .no) .no)) (.seq (.seqk [(0, 0)] .no (.blk (.loop (ι := Nat × Int) (fun i => (fun (i40 : Int) => (⟨[(0, some (.h 0 0)), (3, some (.v (vI i40)))], [(0, some (.shr none (.l 1 eStr lines)))], 1⟩ : St)) i.2) (Lv lines) (fun i => i.1) (Lk lines) (fun i => (fun (i40 : Int) => (.seq (.seq .no (.cond .no .no)) (.seq (.blk (.seq (.reg [(2, .bnd)]) (.cond (.seq .no .no) .no))) (.reg [(1, .bnd)])))) i.2)))) (.seq (.reg [(0, .mpm Value.bool)]) (.cut (ι := ML Bool) (fun j => (fun (keys : ML Bool) => (⟨[(0, some (.h 0 0)), (4, some (.h 1 0))], [(0, some (.shr none (.l 1 eStr lines))), (1, some (.own 1 (.x (MX Value.bool keys))))], 2⟩ : St)) j) (Qdu lines) (.seqk [(29, 0)] .no (.blk (.loop (ι := Nat × (Int × ML Bool)) (fun i => (fun (v31 : Int) (ms : ML Bool) => (⟨[(0, some (.h 0 0)), (4, some (.h 1 0)), (29, some (.h 0 0)), (30, some (.v (vI (lines.length : Int)))), (31, some (.v (vI v31)))], [(0, some (.shr none (.l 1 eStr lines))), (1, some (.own 1 (.x (MX Value.bool ms))))], 2⟩ : St)) i.2.1 i.2.2) (Ns lines) (fun i => i.1) (Pl lines) (fun i => (fun (v31 : Int) (ms : ML Bool) => (.seq .no (.seq (.cond .no .no) (.seq (.blk (.seq .no (.reg [(2, kh26 (lines.getD (Int.toNat v31) default)), (3, .mpu Value.bool ms true)]))) (.reg [(0, .bnd)]))))) i.2.1 i.2.2)))) (fun j => (fun (keys : ML Bool) => (.seq (.seq (.reg [(1, .mpn Value.bool keys)]) (.cond (.seq .no .no) .no)) (.seq .no .no))) j))))))) Tryz.func18 (fun (hpre0 : ∀ k : Nat, (lines.getD k default).size ≤ 1048576) => kn lines fun _ => ifd ((lines.length : Int) > 16) (fun h1 _ => fiI 1 (F18 lines) (condT h1 rfl)) (fun h1 _ => ai (by first | assumption | exact hpre0 _ | exact fun k _ => hpre0 k | (intros; exact trivial) | (intros; exact Nat.zero_le _) : ∀ k : Nat, k < lines.length → (fun (x0 : ByteArray) => x0.size ≤ 1048576) (lines.getD k default)) (ai (Imp.refl (.l 1 eStr lines)) (ai (Eq.refl (Yq (fun (x0 : ByteArray) => x0.size ≤ 1048576) (fun (x0 : ByteArray) => F24 x0))) (ai trivial (ifb (lines.any (fun (x0 : ByteArray) => F24 x0)) (fun h2 => fiI 2 (F18 lines) (condF h1 (condT h2 rfl))) (fun h2 => kn lines fun _ => ai (en18_0 lines (by refine ⟨?_, ?_⟩ <;> omega)) (fun (i0 : Nat × Int) (hi0 : Lv lines i0) => (fun (m0 : Nat) (i40 : Int) (hh0 : Qpj lines i0 m0 i40) => have hI0 := hh0.1; have hl0 := hh0.2.1; have _ := hh0.2.2.1; have _ := hh0.2.2.2; ifd (i40 < (lines.length : Int)) (fun h4 _ => ai (iok (i40 - 1) (by omega)) (ai (by omega : ib (i40 - 1) lines) (ai (by omega : ib i40 lines) (ifb (!(Op.bytesLess (lines.getD (Int.toNat (i40 - 1)) default).toList (lines.getD (Int.toNat i40) default).toList)) (fun h5 => fiI 3 (F18 lines) (condF h1 (condF h2 (finR (Qz hI0 (condT h4 (condT h5 rfl))) rfl)))) (fun h5 => ai (iok (i40 + 1) (by omega)) (bk18_0 lines i0 m0 (i40 + 1) hl0 (Qe hI0 (condT h4 (condF h5 rfl))) (by refine ⟨?_, ?_, ?_⟩ <;> omega))))))) (fun h4 _ => have hD0_6 : Qnk lines = Lp.done i40 := Qn hI0 (condF h4 rfl); ai (kn lines fun _ => ai (en18_1 lines (by omega)) (fun (i1 : Nat × (Int × ML Bool)) (hi1 : Ns lines i1) => (fun (m1 : Nat) (v31 : Int) (ms : ML Bool) (hh1 : Qoc lines i1 m1 v31 ms) => have hI1 := hh1.1; have hl1 := hh1.2.1; have _ := hh1.2.2.1; have _ := hh1.2.2.2; ifd (v31 < (lines.length : Int)) (fun h8 _ => ai (by omega : ib v31 lines) (kc26 (lines.getD (Int.toNat v31) default) (by first | omega | exact hpre0 _ | (intros; exact trivial) | (intros; exact Nat.zero_le _)) (ai (Eq.refl (MX Value.bool ms)) (ai (Eq.refl (Value.bool true)) (ai (iok (v31 + 1) (by omega)) (bk18_1 lines i1 m1 (v31 + 1) (putM ms (F26 (lines.getD (Int.toNat v31) default)) true) hl1 (Qe hI1 (condT h8 rfl)) (by refine ⟨?_, ?_⟩ <;> omega))))))) (fun h8 _ => have hD1_9 : Qka lines = Lp.done (v31, ms) := Qn hI1 (condF h8 rfl); jn18_0 lines ms (Eq.symm (finD hD1_9 rfl)) )) (i1.1 - 1) i1.2.1 i1.2.2 (un18_1 lines i1 hi1))) (fun (j : ML Bool) (hj : Qdu lines j) => (fun (keys : ML Bool) (hJ0_10 : (Mw lines) = Lp.done keys) => ai (Eq.refl (MX Value.bool keys)) (ifd ((keys.length : Int) < (lines.length : Int)) (fun h11 _ => fiI 4 (F18 lines) (condF h1 (condF h2 (finD hD0_6 (finD hJ0_10 (condT h11 rfl)))))) (fun h11 _ => fiI 0 (F18 lines) (condF h1 (condF h2 (finD hD0_6 (finD hJ0_10 (condF h11 rfl)))))))) j hj))) (i0.1 - 1) i0.2 (un18_0 lines i0 hi0))))))))) (by kernel_rfl)
theorem kc16a (lines : List ByteArray) {K_ : Prop} (p0_ : lines.length ≤ 1048576) (p1_ : ∀ k : Nat, (lines.getD k default).size ≤ 1048576) (k_ : K_) : (lines.length ≤ 1048576 ∧ (∀ k : Nat, (lines.getD k default).size ≤ 1048576)) ∧ (Imp (.l 1 eStr lines) (.l 1 eStr lines)) ∧ K_ := ⟨⟨p0_, p1_⟩, Imp.refl _, k_⟩
abbrev kh16a (lines : List ByteArray) : Hint true Tryz.prog := .call 16 (T16 (lines.map F22) lines) (oa16 lines) none
def Wa (lines : List ByteArray) : Int → Lp Int Int := fun i42 =>
 bif (decide (i42 < (lines.length : Int))) then (bif (F17 ((lines.map F22).take (Int.toNat i42)) ((lines.map F22).getD (Int.toNat i42) default)) then (.ret 4) else (.next (i42 + 1))) else (.done i42)
def Ky (lines : List ByteArray) : Int → Lp Int Int := fun i41 =>
 bif (decide (i41 < (lines.length : Int))) then (bif (!(Op.bytesLess (lines.getD (Int.toNat (i41 - 1)) default).toList (lines.getD (Int.toNat i41) default).toList)) then (.ret 3) else (.next (i41 + 1))) else (.done i41)
def Ze (lines : List ByteArray) : Int → Lp Int Int := fun i40 =>
 bif (decide (i40 < (lines.length : Int))) then (bif (((lines.map F22).getD (Int.toNat i40) default).toList == (⟨#[]⟩ : ByteArray).toList) then (.ret 2) else (.next (i40 + 1))) else (.done i40)
def F11 (lines : List ByteArray) : Int :=
 bif (decide ((lines.length : Int) > 16)) then 1 else ((runL (Ze lines) ((Int.toNat ((lines.length : Int) - 0)) + 1) 0).fin (fun r => r) (fun i40 => (runL (Ky lines) ((Int.toNat ((lines.length : Int) - 1)) + 1) 1).fin (fun r => r) (fun i41 => (runL (Wa lines) ((Int.toNat ((lines.length : Int) - 0)) + 1) 0).fin (fun r => r) (fun i42 => 0))))
abbrev Nv (lines : List ByteArray) : Nat × Int := (((Int.toNat ((lines.length : Int) - 0)) + 1), 0)
abbrev Qdr (lines : List ByteArray) (m39 : Nat) (i42 : Int) : Prop := Int.toNat ((lines.length : Int) - i42) < m39 ∧ (0 : Int) ≤ i42
abbrev Qnc (lines : List ByteArray) : Lp Int Int := LpX (Wa lines) (Nv lines)
abbrev Nk (lines : List ByteArray) (i : Nat × Int) : Prop := LpJ (Wa lines) (Nv lines) i (Qdr lines i.1 i.2)
abbrev Qkg (lines : List ByteArray) (i : Nat × Int) (m39 : Nat) (i42 : Int) : Prop := LpH (Wa lines) (Nv lines) i m39 i42 (Qdr lines (m39 + 1) i42)
abbrev Qnh (lines : List ByteArray) (i42 : Int) (i42_ : Int) (K39 : Prop) : Prop := ((.int .i64 i42 : Value) = .int .i64 i42_) ∧ (Im (.l 1 eStr lines)) ∧ (Im (.l 1 eStr (lines.map F22))) ∧ K39
theorem un11_2 (lines : List ByteArray) (i : Nat × Int) (h : Nk lines i) : Qkg lines i (i.1 - 1) i.2 := ⟨hd1 h.1 h.2.1, hd3 h.2.1, hd2 h.2.1, h.2.2⟩
theorem bk11_2 (lines : List ByteArray) (i : Nat × Int) (m39 : Nat) (i42 : Int) (hl : m39 < i.1) (e : runL (Wa lines) m39 i42 = Qnc lines) (h : Qdr lines m39 i42) : ∃ j : Nat × Int, Qnh lines i42 j.2 (Nk lines j ∧ j.1 < i.1) := ⟨(m39, i42), rfl, Imp.refl _, Imp.refl _, ⟨e, h⟩, hl⟩
theorem en11_2 (lines : List ByteArray) (h : (0 : Int) ≤ 0) : Qnh lines 0 0 (Nk lines (Nv lines)) := ⟨rfl, Imp.refl _, Imp.refl _, rfl, Nat.lt_succ_self _, h⟩
abbrev Mt (lines : List ByteArray) : Nat × Int := (((Int.toNat ((lines.length : Int) - 1)) + 1), 1)
abbrev Qfu (lines : List ByteArray) (m39 : Nat) (i41 : Int) : Prop := Int.toNat ((lines.length : Int) - i41) < m39 ∧ (1 : Int) ≤ i41 ∧ (0 : Int) ≤ i41
abbrev Qju (lines : List ByteArray) : Lp Int Int := LpX (Ky lines) (Mt lines)
abbrev Li (lines : List ByteArray) (i : Nat × Int) : Prop := LpJ (Ky lines) (Mt lines) i (Qfu lines i.1 i.2)
abbrev Qpr (lines : List ByteArray) (i : Nat × Int) (m39 : Nat) (i41 : Int) : Prop := LpH (Ky lines) (Mt lines) i m39 i41 (Qfu lines (m39 + 1) i41)
abbrev Qjy (lines : List ByteArray) (i41 : Int) (i41_ : Int) (K39 : Prop) : Prop := ((.int .i64 i41 : Value) = .int .i64 i41_) ∧ (Im (.l 1 eStr lines)) ∧ (Im (.l 1 eStr (lines.map F22))) ∧ K39
theorem un11_1 (lines : List ByteArray) (i : Nat × Int) (h : Li lines i) : Qpr lines i (i.1 - 1) i.2 := ⟨hd1 h.1 h.2.1, hd3 h.2.1, hd2 h.2.1, h.2.2⟩
theorem bk11_1 (lines : List ByteArray) (i : Nat × Int) (m39 : Nat) (i41 : Int) (hl : m39 < i.1) (e : runL (Ky lines) m39 i41 = Qju lines) (h : Qfu lines m39 i41) : ∃ j : Nat × Int, Qjy lines i41 j.2 (Li lines j ∧ j.1 < i.1) := ⟨(m39, i41), rfl, Imp.refl _, Imp.refl _, ⟨e, h⟩, hl⟩
theorem en11_1 (lines : List ByteArray) (h : (1 : Int) ≤ 1 ∧ (0 : Int) ≤ 1) : Qjy lines 1 1 (Li lines (Mt lines)) := ⟨rfl, Imp.refl _, Imp.refl _, rfl, Nat.lt_succ_self _, h⟩
abbrev Mh (lines : List ByteArray) : Nat × Int := (((Int.toNat ((lines.length : Int) - 0)) + 1), 0)
abbrev Qfp (lines : List ByteArray) (m39 : Nat) (i40 : Int) : Prop := Int.toNat ((lines.length : Int) - i40) < m39 ∧ (0 : Int) ≤ i40
abbrev Qpx (lines : List ByteArray) : Lp Int Int := LpX (Ze lines) (Mh lines)
abbrev Pb (lines : List ByteArray) (i : Nat × Int) : Prop := LpJ (Ze lines) (Mh lines) i (Qfp lines i.1 i.2)
abbrev Qoh (lines : List ByteArray) (i : Nat × Int) (m39 : Nat) (i40 : Int) : Prop := LpH (Ze lines) (Mh lines) i m39 i40 (Qfp lines (m39 + 1) i40)
abbrev Qll (lines : List ByteArray) (i40 : Int) (i40_ : Int) (K39 : Prop) : Prop := ((.int .i64 i40 : Value) = .int .i64 i40_) ∧ (Im (.l 1 eStr lines)) ∧ (Im (.l 1 eStr (lines.map F22))) ∧ K39
theorem un11_0 (lines : List ByteArray) (i : Nat × Int) (h : Pb lines i) : Qoh lines i (i.1 - 1) i.2 := ⟨hd1 h.1 h.2.1, hd3 h.2.1, hd2 h.2.1, h.2.2⟩
theorem bk11_0 (lines : List ByteArray) (i : Nat × Int) (m39 : Nat) (i40 : Int) (hl : m39 < i.1) (e : runL (Ze lines) m39 i40 = Qpx lines) (h : Qfp lines m39 i40) : ∃ j : Nat × Int, Qll lines i40 j.2 (Pb lines j ∧ j.1 < i.1) := ⟨(m39, i40), rfl, Imp.refl _, Imp.refl _, ⟨e, h⟩, hl⟩
theorem en11_0 (lines : List ByteArray) (h : (0 : Int) ≤ 0) : Qll lines 0 0 (Pb lines (Mh lines)) := ⟨rfl, Imp.refl _, Imp.refl _, rfl, Nat.lt_succ_self _, h⟩
def S11 (lines : List ByteArray) : Spec := ⟨[.r (.c (.l 1 eStr lines))], .v (vI (F11 lines)), (∀ k : Nat, (lines.getD k default).size ≤ 1048576)⟩
theorem ok11 (lines : List ByteArray) : (S11 lines).ok Tryz.prog 11 :=
 Qk mixed (fn := Tryz.f11) (ct := .seqk [(0, 0)] .no (.seq (.seq .no (.cond (.seq .no .no) .no)) (.seq (.reg [(1, kh16a lines)]) (.seq (.seqk [(0, 0), (3, 0)] .no (.blk (.loop (ι := Nat × Int) (fun i => (fun (i40 : Int) => (⟨[(0, some (.h 0 0)), (3, some (.h 1 0)), (4, some (.v (vI i40)))], [(0, some (.shr none (.l 1 eStr lines))), (1, some (.own 1 (.l 1 eStr (lines.map F22))))], 2⟩ : St)) i.2) (Pb lines) (fun i => i.1) (Mh lines) (fun i => (fun (i40 : Int) => (.seq (.seq .no (.cond .no .no)) (.seq (.blk (.seq .no (.cond (.seq .no .no) .no))) (.reg [(1, .bnd)])))) i.2)))) (.seq (.seqk [(0, 0)] .no (.blk (.loop (ι := Nat × Int) (fun i => (fun (i41 : Int) => (⟨[(0, some (.h 0 0)), (3, some (.h 1 0)), (5, some (.v (vI i41)))], [(0, some (.shr none (.l 1 eStr lines))), (1, some (.own 1 (.l 1 eStr (lines.map F22))))], 2⟩ : St)) i.2) (Li lines) (fun i => i.1) (Mt lines) (fun i => (fun (i41 : Int) => (.seq (.seq .no (.cond .no .no)) (.seq (.blk (.seq (.reg [(2, .bnd)]) (.cond (.seq .no .no) .no))) (.reg [(1, .bnd)])))) i.2)))) (.seq (.seqk [(0, 0), (3, 0)] .no (.blk (.loop (ι := Nat × Int) (fun i => (fun (i42 : Int) => (⟨[(0, some (.h 0 0)), (3, some (.h 1 0)), (6, some (.v (vI i42)))], [(0, some (.shr none (.l 1 eStr lines))), (1, some (.own 1 (.l 1 eStr (lines.map F22))))], 2⟩ : St)) i.2) (Nk lines) (fun i => i.1) (Nv lines) (fun i => (fun (i42 : Int) => (.seq (.seq .no (.cond .no .no)) (.seq (.blk (.seq (.reg [(7, kh17 ((lines.map F22).take (Int.toNat i42)) ((lines.map F22).getD (Int.toNat i42) default))]) (.cond (.seq .no .no) .no))) (.reg [(1, .bnd)])))) i.2)))) (.seq .no .no))))))) Tryz.func11 (fun (hpre0 : ∀ k : Nat, (lines.getD k default).size ≤ 1048576) => kn lines fun _ => ifd ((lines.length : Int) > 16) (fun h1 _ => fiI 1 (F11 lines) (condT h1 rfl)) (fun h1 _ => kc16a lines (by first | omega | (simp only [lens, ib] at * <;> omega)) (by first | assumption | exact hpre0 _ | exact fun k _ => hpre0 k | (intros; exact trivial) | (intros; exact Nat.zero_le _)) (kn lines fun _ => kn (lines.map F22) fun _ => ai (en11_0 lines (by first | omega | (simp only [lens, ib] at * <;> omega))) (fun (i0 : Nat × Int) (hi0 : Pb lines i0) => (fun (m0 : Nat) (i40 : Int) (hh0 : Qoh lines i0 m0 i40) => have hI0 := hh0.1; have hl0 := hh0.2.1; have _ := hh0.2.2.1; have _ := hh0.2.2.2; ifd (i40 < (lines.length : Int)) (fun h3 _ => ai (by first | omega | (simp only [lens, ib] at * <;> omega) : ib i40 (lines.map F22)) (ifb (((lines.map F22).getD (Int.toNat i40) default).toList == w13_.toList) (fun h4 => fiI 2 (F11 lines) (condF h1 (finR (Qz hI0 (condT h3 (condT h4 rfl))) rfl))) (fun h4 => ai (iok (i40 + 1) (by first | omega | (simp only [lens, ib] at * <;> omega))) (bk11_0 lines i0 m0 (i40 + 1) hl0 (Qe hI0 (condT h3 (condF h4 rfl))) (by refine ⟨?_, ?_⟩ <;> first | omega | (simp only [lens, ib] at * <;> omega)))))) (fun h3 _ => have hD0_5 : Qpx lines = Lp.done i40 := Qn hI0 (condF h3 rfl); kn lines fun _ => ai (en11_1 lines (by refine ⟨?_, ?_⟩ <;> first | omega | (simp only [lens, ib] at * <;> omega))) (fun (i1 : Nat × Int) (hi1 : Li lines i1) => (fun (m1 : Nat) (i41 : Int) (hh1 : Qpr lines i1 m1 i41) => have hI1 := hh1.1; have hl1 := hh1.2.1; have _ := hh1.2.2.1; have _ := hh1.2.2.2; ifd (i41 < (lines.length : Int)) (fun h7 _ => ai (iok (i41 - 1) (by first | omega | (simp only [lens, ib] at * <;> omega))) (ai (by first | omega | (simp only [lens, ib] at * <;> omega) : ib (i41 - 1) lines) (ai (by first | omega | (simp only [lens, ib] at * <;> omega) : ib i41 lines) (ifb (!(Op.bytesLess (lines.getD (Int.toNat (i41 - 1)) default).toList (lines.getD (Int.toNat i41) default).toList)) (fun h8 => fiI 3 (F11 lines) (condF h1 (finD hD0_5 (finR (Qz hI1 (condT h7 (condT h8 rfl))) rfl)))) (fun h8 => ai (iok (i41 + 1) (by first | omega | (simp only [lens, ib] at * <;> omega))) (bk11_1 lines i1 m1 (i41 + 1) hl1 (Qe hI1 (condT h7 (condF h8 rfl))) (by refine ⟨?_, ?_, ?_⟩ <;> first | omega | (simp only [lens, ib] at * <;> omega)))))))) (fun h7 _ => have hD1_9 : Qju lines = Lp.done i41 := Qn hI1 (condF h7 rfl); kn lines fun _ => kn (lines.map F22) fun _ => ai (en11_2 lines (by first | omega | (simp only [lens, ib] at * <;> omega))) (fun (i2 : Nat × Int) (hi2 : Nk lines i2) => (fun (m2 : Nat) (i42 : Int) (hh2 : Qkg lines i2 m2 i42) => have hI2 := hh2.1; have hl2 := hh2.2.1; have _ := hh2.2.2.1; have _ := hh2.2.2.2; ifd (i42 < (lines.length : Int)) (fun h11 _ => ai (by first | omega | (simp only [lens, ib] at * <;> omega) : 0 ≤ (0 : Int) ∧ (0 : Int) ≤ i42 ∧ i42 ≤ ((lines.map F22).length : Int)) (ai (by first | omega | (simp only [lens, ib] at * <;> omega) : ib i42 (lines.map F22)) (kc17 ((lines.map F22).take (Int.toNat i42)) ((lines.map F22).getD (Int.toNat i42) default) (ifb (F17 ((lines.map F22).take (Int.toNat i42)) ((lines.map F22).getD (Int.toNat i42) default)) (fun h12 => fiI 4 (F11 lines) (condF h1 (finD hD0_5 (finD hD1_9 (finR (Qz hI2 (condT h11 (condT h12 rfl))) rfl))))) (fun h12 => ai (iok (i42 + 1) (by first | omega | (simp only [lens, ib] at * <;> omega))) (bk11_2 lines i2 m2 (i42 + 1) hl2 (Qe hI2 (condT h11 (condF h12 rfl))) (by refine ⟨?_, ?_⟩ <;> first | omega | (simp only [lens, ib] at * <;> omega)))))))) (fun h11 _ => have hD2_13 : Qnc lines = Lp.done i42 := Qn hI2 (condF h11 rfl); fiI 0 (F11 lines) (condF h1 (finD hD0_5 (finD hD1_9 (finD hD2_13 rfl)))))) (i2.1 - 1) i2.2 (un11_2 lines i2 hi2)))) (i1.1 - 1) i1.2 (un11_1 lines i1 hi1)))) (i0.1 - 1) i0.2 (un11_0 lines i0 hi0))))) (by kernel_rfl)
instance baLawful : LawfulBEq ByteArray where
 eq_of_beq h := (Go.MapKept.bytes_beq _ _).1 h
 rfl := (Go.MapKept.bytes_beq _ _).2 rfl
theorem Qma (l : ByteArray) (h : F29 l = false) : F22 l = (⟨#[]⟩ : ByteArray) := by
 unfold F22
 rw [h]; rfl
theorem Gf (l : ByteArray) : ((F22 l).toList == (⟨#[]⟩ : ByteArray).toList) = !F29 l := by
 cases h : F29 l with
 | false => rw [Qma l h]; rw [Ej]; rfl
 | true =>
  rw [Ub, Ub, Qpd l h, Bool.not_true, beq_eq_false_iff_ne]
  have hk := Lo l h
  have hl := Js _ hk.form
  have hn := Hm _ hk.form
  have hno := hk.no
  generalize (F30 l).1 = w at hl hn hno
  match w, hl with
  | a :: r, _ =>
   have e : ((keyN (((a :: r).getD 0 default).data.toList)).toNat) = (keyN (((a :: r).getD 0 default).data.toList)).toNat - 1 + 1 := by omega
   rw [e, List.take_succ_cons, Xh, List.map_cons, Lib.join_cons]
   intro h0
   exact (hno a List.mem_cons_self).2.1 (List.append_eq_nil_iff.1 h0).1
def dupK : List ByteArray → List ByteArray → Bool
 | _, [] => false
 | seen, s :: r => decide (s ∈ seen) || dupK (seen ++ [s]) r
def insK (ks : List ByteArray) (s : ByteArray) : List ByteArray := if s ∈ ks then ks else ks ++ [s]
theorem Qhy : ∀ (keys ks : List ByteArray), (keys.foldl insK ks).length ≤ ks.length + keys.length
 | [], ks => by simp
 | s :: r, ks => by
  rw [List.foldl_cons]
  have h := Qhy r (insK ks s)
  have h2 : (insK ks s).length ≤ ks.length + 1 := by unfold insK; split <;> simp
  simp only [List.length_cons]; omega
theorem Qcy : ∀ (keys ks seen : List ByteArray), (∀ s, s ∈ ks ↔ s ∈ seen) → decide ((keys.foldl insK ks).length < ks.length + keys.length) = dupK seen keys
 | [], ks, seen, _ => by simp [dupK]
 | s :: r, ks, seen, h => by
  rw [List.foldl_cons, dupK]
  by_cases hs : s ∈ ks
  ·have e : insK ks s = ks := by unfold insK; rw [if_pos hs]
   rw [e, decide_eq_true ((h s).1 hs), Bool.true_or]
   have := Qhy r ks
   exact decide_eq_true (by simp only [List.length_cons]; omega)
  ·have e : insK ks s = ks ++ [s] := by unfold insK; rw [if_neg hs]
   rw [e, decide_eq_false (fun x => hs ((h s).2 x)), Bool.false_or, ← Qcy r (ks ++ [s]) (seen ++ [s]) (fun t => by simp [h t])]
   congr 1
   simp only [List.length_append, List.length_cons, List.length_nil]
   exact propext ⟨fun x => by omega, fun x => by omega⟩
theorem Ru {α : Type} : ∀ (m : ML α) (s : ByteArray) (x : α), (putM m s x).map (·.1) = insK (m.map (·.1)) s
 | [], s, x => by simp [putM, insK]
 | p :: m, s, x => by
  rw [putM]
  by_cases h : p.1 = s
  ·rw [if_pos h]; subst h; simp [insK]
  ·rw [if_neg h, List.map_cons, Ru m s x]
   unfold insK
   have h' : ¬ s = p.1 := fun e => h e.symm
   by_cases hm : s ∈ m.map (·.1)
   ·rw [if_pos hm, List.map_cons, if_pos (List.mem_cons_of_mem _ hm)]
   ·rw [if_neg hm, List.map_cons, if_neg (by simp only [List.mem_cons, not_or]; exact ⟨h', hm⟩)]; rfl
theorem Pd {α : Type} (f : ByteArray → ByteArray) (v : ByteArray → α) : ∀ (ls : List ByteArray) (m : ML α), (ls.foldl (fun m l => putM m (f l) (v l)) m).map (·.1) = (ls.map f).foldl insK (m.map (·.1))
 | [], m => rfl
 | l :: ls, m => by
  rw [List.foldl_cons, Pd f v ls, Ru, List.map_cons, List.foldl_cons]
theorem Hu (ws : List ByteArray) (x : ByteArray) : F17 ws x = decide (x ∈ ws) := by
 rw [Mr, Bool.eq_iff_iff, List.any_eq_true, decide_eq_true_eq]
 constructor
 ·rintro ⟨e, he, h⟩
  rw [Ej, decide_eq_true_eq] at h
  exact h ▸ he
 ·exact fun h => ⟨x, h, by rw [Ej]; exact decide_eq_true rfl⟩
theorem Qcq (keys : List ByteArray) : ∀ (m i : Nat), i + m = keys.length → anyF (fun k => decide (keys.getD k default ∈ keys.take k)) i m = dupK (keys.take i) (keys.drop i)
 | 0, i, h => by rw [List.drop_of_length_le (by omega)]; rfl
 | m + 1, i, h => by
  have hd : keys.drop i = keys.getD i default :: keys.drop (i + 1) := by
   rw [List.drop_eq_getElem_cons (show i < keys.length by omega), List.getD_eq_getElem?_getD, List.getElem?_eq_getElem (show i < keys.length by omega)]; rfl
  rw [hd, dupK, anyF, Qcq keys m (i + 1) (by omega), Ti (show i < keys.length by omega)]
theorem Lf (f : ByteArray → ByteArray) (ls : List ByteArray) (i : Nat) (h : i < ls.length) : (ls.map f).getD i default = f (ls.getD i default) := by
 rw [Ja _ (by simpa using h), Ja _ h, List.getElem_map]
theorem Qen {α : Type} {p q : α → Bool} {xs : List α} (h : ∀ x, p x = q x) : xs.any p = xs.any q := by rw [show p = q from funext h]
theorem Ra (lines : List ByteArray) : F18 lines = F11 lines := by
 unfold F18 F11
 have hkept : ∀ x : ByteArray, F24 x = !F29 x := fun x => by unfold F24; rw [Wu]
 cases h16 : decide ((lines.length : Int) > 16) with
 | true => rfl
 | false =>
 rw [cond_false, cond_false]
 have h0 := anyL lines (fun l => !F29 l) (2 : Int) (Ze lines) (fun i hi => by
  simp only [Ze, ltD hi, cond_true, nn, Lf _ _ _ hi, Gf]
  rfl) (by simp only [Ze, geD, cond_false]) (fun r => r) (fun _ => (runL (Ky lines) ((Int.toNat ((lines.length : Int) - 1)) + 1) 1).fin (fun r => r) (fun i41 => (runL (Wa lines) ((Int.toNat ((lines.length : Int) - 0)) + 1) 0).fin (fun r => r) (fun i42 => 0))) _ (fun _ => rfl)
 rw [h0]
 have e1 : (lines.any fun x0 => F24 x0) = lines.any fun l => !F29 l := Qen hkept
 rw [e1]
 cases (lines.any fun l => !F29 l) with
 | true => rfl
 | false =>
 rw [cond_false, cond_false]
 have e2 : Gr lines = Ky lines := rfl
 rw [e2]
 congr 1
 funext i
 have h2 := Zy (Wa lines) lines.length (fun k => decide ((lines.map F22).getD k default ∈ (lines.map F22).take k)) (4 : Int) (fun r => r) (0 : Int) (fun i hi => by
  simp only [Wa, ltD hi, cond_true, nn, Hu]; rfl) (by simp only [Wa, geD, cond_false]) lines.length 0 (by omega) (Int.toNat ((lines.length : Int) - 0) + 1) (by omega)
 rw [Qcq (lines.map F22) lines.length 0 (by simp), List.take_zero, List.drop_zero] at h2
 refine Eq.trans ?_ h2.symm
 have h3 := Kr lines (fun (m : ML Bool) l => putM m (F22 l) true) (fun m i => (i, m)) (Ju lines) (fun i s hi => by
  simp only [Ju, ltD hi, cond_true, nn, Qlw]; rfl) (fun s => by simp only [Ju, geD, cond_false]) Lp.ret (fun (v31, ms) => Lp.done ms) ([] : ML Bool)
 have h4 : Mw lines = Lp.done (lines.foldl (fun (m : ML Bool) l => putM m (F22 l) true) []) := h3
 rw [h4]
 show (bif decide (((lines.foldl (fun (m : ML Bool) l => putM m (F22 l) true) []).length : Int) < (lines.length : Int)) then (4 : Int) else 0) = _
 have h5 := Qcy (lines.map F22) [] [] (fun s => Iff.rfl)
 have h6 : (lines.foldl (fun (m : ML Bool) l => putM m (F22 l) true) []).length = ((lines.map F22).foldl insK []).length := by
  have := congrArg List.length (Pd F22 (fun _ => true) lines [])
  rw [List.length_map] at this
  exact this
 rw [← h5, h6]
 congr 1
 simp only [List.length_nil, Nat.zero_add, List.length_map]
 exact decide_eq_decide.2 (by omega)
theorem Qbz (lines : List ByteArray) (h : F11 lines = 0) : lines.length ≤ 16 ∧ ∀ l ∈ lines, F29 l = true := by
 unfold F11 at h
 cases h16 : decide ((lines.length : Int) > 16) with
 | true => rw [h16, cond_true] at h; exact absurd h (by decide)
 | false =>
 rw [h16, cond_false] at h
 have h0 := anyL lines (fun l => !F29 l) (2 : Int) (Ze lines) (fun i hi => by
  simp only [Ze, ltD hi, cond_true, nn, Lf _ _ _ hi, Gf]
  rfl) (by simp only [Ze, geD, cond_false]) (fun r => r) (fun _ => (runL (Ky lines) ((Int.toNat ((lines.length : Int) - 1)) + 1) 1).fin (fun r => r) (fun i41 => (runL (Wa lines) ((Int.toNat ((lines.length : Int) - 0)) + 1) 0).fin (fun r => r) (fun i42 => 0))) _ (fun _ => rfl)
 rw [h0] at h
 cases ha : (lines.any fun l => !F29 l) with
 | true => rw [ha, cond_true] at h; exact absurd h (by decide)
 | false =>
  have h1 := of_decide_eq_false h16
  refine ⟨by omega, fun l hl => ?_⟩
  have := List.any_eq_false.1 ha l hl
  cases hk : F29 l with
  | true => rfl
  | false => rw [hk] at this; exact absurd rfl this
theorem Nr (lines : List ByteArray) (h : F11 lines = 0) : lines.length ≤ 16 := (Qbz lines h).1
def Jg (a : List ByteArray) (left' : Int) : (Int × Int) → Lp (Int × Int) Int := fun (left'1, i40) =>
 bif (decide (i40 < (a.length : Int))) then (bif (decide ((left'1 - ((a.getD (Int.toNat i40) default).size : Int)) < 0)) then (.ret (-1)) else (.next ((left'1 - ((a.getD (Int.toNat i40) default).size : Int)), (i40 + 1)))) else (.done (left'1, i40))
def F4 (a : List ByteArray) (left' : Int) : Int :=
 bif (decide ((left' - (a.length : Int)) < 0)) then (-1) else ((runL (Jg a left') ((Int.toNat ((a.length : Int) - 0)) + 1) ((left' - (a.length : Int)), 0)).fin (fun r => r) (fun (left'1, i40) => left'1))
abbrev Qcz (a : List ByteArray) (left' : Int) : Nat × (Int × Int) := (((Int.toNat ((a.length : Int) - 0)) + 1), ((left' - (a.length : Int)), 0))
abbrev Qnp (a : List ByteArray) (m39 : Nat) (left'1 : Int) (i40 : Int) : Prop := Int.toNat ((a.length : Int) - i40) < m39 ∧ (0 : Int) ≤ left'1 ∧ left'1 ≤ 1048576 ∧ (0 : Int) ≤ i40
abbrev lX4_0 (a : List ByteArray) (left' : Int) : Lp (Int × Int) Int := LpX (Jg a left') (Qcz a left')
abbrev Qcj (a : List ByteArray) (left' : Int) (i : Nat × (Int × Int)) : Prop := LpJ (Jg a left') (Qcz a left') i (Qnp a i.1 i.2.1 i.2.2)
abbrev lH4_0 (a : List ByteArray) (left' : Int) (i : Nat × (Int × Int)) (m39 : Nat) (left'1 : Int) (i40 : Int) : Prop := LpH (Jg a left') (Qcz a left') i m39 (left'1, i40) (Qnp a (m39 + 1) left'1 i40)
abbrev lE4_0 (a : List ByteArray) (left'1 : Int) (i40 : Int) (left'1_ : Int) (i40_ : Int) (K39 : Prop) : Prop := ((.int .i64 left'1 : Value) = .int .i64 left'1_) ∧ ((.int .i64 i40 : Value) = .int .i64 i40_) ∧ (Im (.l 1 eStr a)) ∧ K39
theorem un4_0 (a : List ByteArray) (left' : Int) (i : Nat × (Int × Int)) (h : Qcj a left' i) : lH4_0 a left' i (i.1 - 1) i.2.1 i.2.2 := ⟨hd1 h.1 h.2.1, hd3 h.2.1, hd2 h.2.1, h.2.2⟩
theorem bk4_0 (a : List ByteArray) (left' : Int) (i : Nat × (Int × Int)) (m39 : Nat) (left'1 : Int) (i40 : Int) (hl : m39 < i.1) (e : runL (Jg a left') m39 (left'1, i40) = lX4_0 a left') (h : Qnp a m39 left'1 i40) : ∃ j : Nat × (Int × Int), lE4_0 a left'1 i40 j.2.1 j.2.2 (Qcj a left' j ∧ j.1 < i.1) := ⟨(m39, (left'1, i40)), rfl, rfl, Imp.refl _, ⟨e, h⟩, hl⟩
theorem en4_0 (a : List ByteArray) (left' : Int) (h : (0 : Int) ≤ (left' - (a.length : Int)) ∧ (left' - (a.length : Int)) ≤ 1048576 ∧ (0 : Int) ≤ 0) : lE4_0 a (left' - (a.length : Int)) 0 (left' - (a.length : Int)) 0 (Qcj a left' (Qcz a left')) := ⟨rfl, rfl, Imp.refl _, rfl, Nat.lt_succ_self _, h⟩
def S4 (a : List ByteArray) (left' : Int) : Spec := ⟨[.r (.c (.l 1 eStr a)), .r (.c (.v (vI left')))], .v (vI (F4 a left')), 0 ≤ left' ∧ left' ≤ 1048576 ∧ (∀ k : Nat, (a.getD k default).size ≤ 9223372036854775807)⟩
theorem ok4 (a : List ByteArray) (left' : Int) : (S4 a left').ok Tryz.prog 4 :=
 Qk mixed (fn := Tryz.f4) (ct := .seqk [(0, 0)] .no (.seq (.reg [(3, .bnd)]) (.seq (.seq .no (.cond (.seq .no .no) .no)) (.seq (.seqk [(0, 0)] .no (.blk (.loop (ι := Nat × (Int × Int)) (fun i => (fun (left'1 : Int) (i40 : Int) => (⟨[(0, some (.h 0 0)), (1, some (.v (vI left'1))), (5, some (.v (vI i40)))], [(0, some (.shr none (.l 1 eStr a)))], 1⟩ : St)) i.2.1 i.2.2) (Qcj a left') (fun i => i.1) (Qcz a left') (fun i => (fun (left'1 : Int) (i40 : Int) => (.seq (.seq .no (.cond .no .no)) (.seq (.blk (.seq (.reg [(6, .bnd)]) (.seq .no (.cond (.seq .no .no) .no)))) (.reg [(1, .bnd)])))) i.2.1 i.2.2)))) (.seq .no .no))))) Tryz.func4 (fun (hp : 0 ≤ left' ∧ left' ≤ 1048576 ∧ (∀ k : Nat, (a.getD k default).size ≤ 9223372036854775807)) => have hpre0 := hp.1; have hpre1 := hp.2.1; have hpre2 := hp.2.2; kn a fun _ => ai (iok (left' - (a.length : Int)) (by first | omega | (have hz := (by assumption : ∀ k : Nat, (a.getD k default).size ≤ 9223372036854775807) (Int.toNat i40); omega))) (ifd ((left' - (a.length : Int)) < 0) (fun h1 _ => fiI (-1) (F4 a left') (condT h1 rfl)) (fun h1 _ => kn a fun _ => ai (en4_0 a left' (by refine ⟨?_, ?_, ?_⟩ <;> omega)) (fun (i0 : Nat × (Int × Int)) (hi0 : Qcj a left' i0) => (fun (m0 : Nat) (left'1 : Int) (i40 : Int) (hh0 : lH4_0 a left' i0 m0 left'1 i40) => have hI0 := hh0.1; have hl0 := hh0.2.1; have _ := hh0.2.2.1; have _ := hh0.2.2.2; ifd (i40 < (a.length : Int)) (fun h3 _ => ai (by omega : ib i40 a) (ai (iok (left'1 - ((a.getD (Int.toNat i40) default).size : Int)) (by first | omega | (have hz := (by assumption : ∀ k : Nat, (a.getD k default).size ≤ 9223372036854775807) (Int.toNat i40); omega))) (ifd ((left'1 - ((a.getD (Int.toNat i40) default).size : Int)) < 0) (fun h4 _ => fiI (-1) (F4 a left') (condF h1 (finR (Qz hI0 (condT h3 (condT h4 rfl))) rfl))) (fun h4 _ => ai (iok (i40 + 1) (by first | omega | (have hz := (by assumption : ∀ k : Nat, (a.getD k default).size ≤ 9223372036854775807) (Int.toNat i40); omega))) (bk4_0 a left' i0 m0 (left'1 - ((a.getD (Int.toNat i40) default).size : Int)) (i40 + 1) hl0 (Qe hI0 (condT h3 (condF h4 rfl))) (by refine ⟨?_, ?_, ?_, ?_⟩ <;> omega)))))) (fun h3 _ => have hD0_5 : lX4_0 a left' = Lp.done (left'1, i40) := Qn hI0 (condF h3 rfl); fiI left'1 (F4 a left') (condF h1 (finD hD0_5 rfl)))) (i0.1 - 1) i0.2.1 i0.2.2 (un4_0 a left' i0 hi0))))) (by kernel_rfl)
theorem gb4 (a : List ByteArray) (left' : Int) : 0 ≤ left' → left' ≤ 1048576 → 0 ≤ (F4 a left') → (F4 a left') ≤ left' ∧ (a.length ≤ 1000000000) ∧ (∀ k : Nat, (a.getD k default).size ≤ 1000000000) := by
 intro h0 h1 h2
 simp only [F4] at h2 ⊢
 cases h : decide (left' - (a.length : Int) < 0)
 ·simp only [h, cond_false] at h2 ⊢
  have hc := of_decide_eq_false h
  obtain ⟨hall, hle⟩ := Qqs (fun (x : ByteArray) (l : Int) => l - (x.size : Int)) (fun x => (x.size ≤ 1000000000)) (fun x l g0 g1 g2 => ⟨by omega, by omega⟩) a (Jg a left') (left' - (a.length : Int)) (by omega) (by omega) (fun l i => rfl) h2
  exact ⟨Int.le_trans hle (by omega), by omega, fun k => by
   by_cases hk : k < a.length
   ·exact (hall k hk)
   ·rw [Qgb a (by omega)]; first | exact Nat.zero_le _ | (intro k'; exact Nat.zero_le _) | (intro k' k''; exact Nat.zero_le _)⟩
 ·simp only [h, cond_true] at h2
  exact absurd h2 (by decide)
theorem g4_0 (a : List ByteArray) (left' : Int) : 0 ≤ left' → left' ≤ 1048576 → 0 ≤ (F4 a left') → (F4 a left') ≤ left' := by
 intro h0 h1 h2; exact (gb4 a left' h0 h1 h2).1
theorem g4_1 (a : List ByteArray) (left' : Int) : 0 ≤ left' → left' ≤ 1048576 → 0 ≤ (F4 a left') → a.length ≤ 1000000000 := by
 intro h0 h1 h2; exact (gb4 a left' h0 h1 h2).2.1
theorem g4_2 (a : List ByteArray) (left' : Int) : 0 ≤ left' → left' ≤ 1048576 → 0 ≤ (F4 a left') → ∀ k : Nat, (a.getD k default).size ≤ 1000000000 := by
 intro h0 h1 h2; exact (gb4 a left' h0 h1 h2).2.2
theorem Nh (a : List ByteArray) (l : Int) (h : 0 ≤ F4 a l) : (a.length : Int) ≤ l ∧ (∀ k : Nat, ((a.getD k default).size : Int) ≤ l) ∧ F4 a l ≤ l := by
 unfold F4 at h ⊢
 cases hd : decide ((l - (a.length : Int)) < 0) with
 | true => rw [hd, cond_true] at h; exact absurd h (by decide)
 | false =>
  rw [hd, cond_false] at h
  have hd := of_decide_eq_false hd
  have key : ∀ (m i : Nat) (s : Int), i + m = a.length → 0 ≤ s → ∀ fuel, m < fuel → 0 ≤ (runL (Jg a l) fuel (s, (i : Int))).fin (fun r => r) (fun (x : Int × Int) => x.1) → (∀ k : Nat, i ≤ k → k < a.length → ((a.getD k default).size : Int) ≤ s) ∧ (runL (Jg a l) fuel (s, (i : Int))).fin (fun r => r) (fun (x : Int × Int) => x.1) ≤ s := by
   intro m
   induction m with
   | zero =>
    intro i s hi hs fuel hf hr
    obtain ⟨fuel, rfl⟩ : ∃ f, fuel = f + 1 := ⟨fuel - 1, by omega⟩
    have e : Jg a l (s, (i : Int)) = .done (s, (i : Int)) := by
     simp only [Jg, decide_eq_false (show ¬ (i : Int) < (a.length : Int) by omega), cond_false]
    rw [Kd _ e]
    exact ⟨fun k h1 h2 => by omega, Int.le_refl _⟩
   | succ m ih =>
    intro i s hi hs fuel hf hr
    obtain ⟨fuel, rfl⟩ : ∃ f, fuel = f + 1 := ⟨fuel - 1, by omega⟩
    have e : Jg a l (s, (i : Int)) = bif decide (s - ((a.getD i default).size : Int) < 0) then .ret (-1) else .next (s - ((a.getD i default).size : Int), ((i + 1 : Nat) : Int)) := by
     simp only [Jg, decide_eq_true (show (i : Int) < (a.length : Int) by omega), cond_true, nn]; rfl
    cases hb : decide (s - ((a.getD i default).size : Int) < 0) with
    | true =>
     rw [hb, cond_true] at e
     rw [Wn _ e] at hr
     exact absurd hr (by show ¬ (0 : Int) ≤ -1; decide)
    | false =>
     rw [hb, cond_false] at e
     have hb := of_decide_eq_false hb
     rw [Ur _ e] at hr ⊢
     obtain ⟨h1, h2⟩ := ih (i + 1) _ (by omega) (by omega) fuel (by omega) hr
     refine ⟨fun k hk1 hk2 => ?_, by omega⟩
     rcases Nat.eq_or_lt_of_le hk1 with rfl | hk
     ·omega
     ·have := h1 k hk hk2
      omega
  obtain ⟨h1, h2⟩ := key a.length 0 (l - (a.length : Int)) (by omega) (by omega) (Int.toNat ((a.length : Int) - 0) + 1) (by omega) h
  refine ⟨by omega, fun k => ?_, ?_⟩
  ·by_cases hk : k < a.length
   ·have := h1 k (Nat.zero_le _) hk
    omega
   ·rw [List.getD_eq_getElem?_getD, List.getElem?_eq_none (by omega)]
    show ((0 : Nat) : Int) ≤ l
    omega
  ·rw [cond_false]
   refine Int.le_trans h2 ?_
   omega
theorem Qo (a : List ByteArray) {l : Int} (h : 0 ≤ F4 a l) (hl : l ≤ 1048576) : a.length ≤ 1048576 := by have := (Nh a l h).1; omega
theorem Qs (a : List ByteArray) {l : Int} (h : 0 ≤ F4 a l) (hl : l ≤ 1048576) : ∀ k : Nat, (a.getD k default).size ≤ 1048576 := fun k => by have := (Nh a l h).2.1 k; omega
theorem Qq (a : List ByteArray) (l : Int) (h : 0 ≤ F4 a l) : F4 a l ≤ l := (Nh a l h).2.2
def ltB (a b : ByteArray) : Bool := Op.bytesLess a.toList b.toList
theorem Qcw : ∀ (x y : List UInt8), Op.bytesLess x y = decide (x < y)
 | [], [] => by simp [Op.bytesLess]
 | _ :: _, [] => by simp [Op.bytesLess]
 | [], _ :: _ => by simp [Op.bytesLess]
 | a :: x, b :: y => by
  rw [Op.bytesLess, Qcw x y]
  simp only [List.cons_lt_cons_iff]
  by_cases h1 : a < b <;> by_cases h2 : a = b <;> by_cases h3 : x < y <;> simp [h1, h2, h3]
theorem Bx (a b : ByteArray) : ltB a b = true ↔ a.data.toList < b.data.toList := by
 unfold ltB
 rw [Ub, Ub, Qcw, decide_eq_true_eq]
theorem Wb (a : ByteArray) : ltB a a = false := by
 rw [Bool.eq_false_iff, ne_eq, Bx]
 exact List.lt_irrefl _
theorem Vu {a b c : ByteArray} (h1 : ltB a b = true) (h2 : ltB b c = true) : ltB a c = true := by
 rw [Bx] at *
 exact List.lt_trans h1 h2
theorem Qgl (a b : ByteArray) : ltB a b = true ∨ a = b ∨ ltB b a = true := by
 rw [Bx, Bx]
 rcases Classical.em (a.data.toList < b.data.toList) with h | h
 ·exact .inl h
 ·rcases Classical.em (b.data.toList < a.data.toList) with h2 | h2
  ·exact .inr (.inr h2)
  ·refine .inr (.inl (Wm (List.le_antisymm ?_ ?_)))
   ·exact List.not_lt.1 h2
   ·exact List.not_lt.1 h
theorem Qim {a b : ByteArray} (h : ltB a b = true) : ltB b a = false := by
 rw [Bool.eq_false_iff]
 intro h2
 have := Vu h h2
 rw [Wb] at this
 cases this
def Zr (xs : List ByteArray) : Prop := xs.Pairwise fun a b => ltB a b = true
theorem Ly : ∀ {xs ys : List ByteArray}, Zr xs → Zr ys → (∀ z, z ∈ xs ↔ z ∈ ys) → xs = ys
 | [], [], _, _, _ => rfl
 | [], y :: ys, _, _, h => absurd ((h y).2 List.mem_cons_self) List.not_mem_nil
 | x :: xs, [], _, _, h => absurd ((h x).1 List.mem_cons_self) List.not_mem_nil
 | x :: xs, y :: ys, hx, hy, h => by
  obtain ⟨hx1, hx2⟩ := List.pairwise_cons.1 hx
  obtain ⟨hy1, hy2⟩ := List.pairwise_cons.1 hy
  have hno : ∀ {a : ByteArray} {r : List ByteArray}, (∀ b ∈ r, ltB a b = true) → a ∉ r := fun h hm => by
   have := h _ hm
   rw [Wb] at this
   cases this
  have e : x = y := by
   rcases List.mem_cons.1 ((h x).1 List.mem_cons_self) with e | hm
   ·exact e
   ·rcases List.mem_cons.1 ((h y).2 List.mem_cons_self) with e | hm2
    ·exact e.symm
    ·have := Qim (hy1 x hm)
     rw [hx1 y hm2] at this
     cases this
  subst e
  rw [Ly hx2 hy2 fun z => ⟨fun hz => ?_, fun hz => ?_⟩]
  ·rcases List.mem_cons.1 ((h z).1 (List.mem_cons_of_mem _ hz)) with rfl | hm
   ·exact absurd hz (hno hx1)
   ·exact hm
  ·rcases List.mem_cons.1 ((h z).2 (List.mem_cons_of_mem _ hz)) with rfl | hm
   ·exact absurd hz (hno hy1)
   ·exact hm
theorem Pk (xs : List ByteArray) : (Yw xs).Perm xs := by
 unfold Yw
 have h := (List.mergeSort_perm (xs.map (·.data.toList)) fun x y => decide (x ≤ y)).map fun l : List UInt8 => (⟨l.toArray⟩ : ByteArray)
 refine h.trans (List.Perm.of_eq ?_)
 rw [List.map_map]
 exact (List.map_congr_left fun a _ => show (⟨a.data.toList.toArray⟩ : ByteArray) = a from by simp).trans (List.map_id _)
theorem Qji {xs : List ByteArray} {z : ByteArray} : z ∈ Yw xs ↔ z ∈ xs := (Pk xs).mem_iff
theorem Qal (xs : List ByteArray) (h : xs.Nodup) : Zr (Yw xs) := by
 have hn : (Yw xs).Nodup := (Pk xs).nodup_iff.2 h
 have hp : (Yw xs).Pairwise fun a b => ltB b a = false := by
  unfold Yw
  rw [List.pairwise_map]
  refine (List.pairwise_mergeSort (le := fun x y : List UInt8 => decide (x ≤ y)) ?_ ?_ _).imp ?_
  ·intro a b c h1 h2
   simp only [decide_eq_true_eq] at *
   exact List.le_trans h1 h2
  ·intro a b
   simp only [Bool.or_eq_true, decide_eq_true_eq]
   exact List.le_total a b
  ·intro a b h1
   rw [Bool.eq_false_iff, ne_eq, Bx]
   simp only [decide_eq_true_eq] at h1
   exact List.not_lt.2 h1
 refine (hp.and hn).imp ?_
 rintro a b ⟨h1, h2⟩
 rcases Qgl a b with h | h | h
 ·exact h
 ·exact absurd h h2
 ·rw [h1] at h; cases h
theorem Bk {xs : List ByteArray} (h : Zr xs) : xs.Nodup := h.imp fun {a b} hab e => by
 subst e
 rw [Wb] at hab
 cases hab
theorem Qje {xs : List ByteArray} (h : ∀ i, i + 1 < xs.length → ltB (xs.getD i default) (xs.getD (i + 1) default) = true) : Zr xs := by
 induction xs with
 | nil => exact List.Pairwise.nil
 | cons x xs ih =>
  have h2 : Zr xs := ih fun i hi => by
   have := h (i + 1) (by simpa using hi)
   simpa using this
  refine List.pairwise_cons.2 ⟨fun y hy => ?_, h2⟩
  cases xs with
  | nil => cases hy
  | cons z r =>
   have h0 : ltB x z = true := by simpa using h 0 (by simp)
   rcases List.mem_cons.1 hy with rfl | hm
   ·exact h0
   ·exact Vu h0 ((List.pairwise_cons.1 h2).1 y hm)
theorem Qgn {p : Nat → Bool} : ∀ (m i : Nat), anyF p i m = false → ∀ k, i ≤ k → k < i + m → p k = false
 | 0, i, _, k, h1, h2 => by omega
 | m + 1, i, h, k, h1, h2 => by
  rw [anyF, Bool.or_eq_false_iff] at h
  rcases Nat.eq_or_lt_of_le h1 with rfl | hlt
  ·exact h.1
  ·exact Qgn m (i + 1) h.2 k hlt (by omega)
theorem Hn (lines : List ByteArray) (h : F11 lines = 0) : Zr lines := by
 have hk := (Qbz lines h).2
 unfold F11 at h
 cases h16 : decide ((lines.length : Int) > 16) with
 | true => rw [h16, cond_true] at h; exact absurd h (by decide)
 | false =>
 rw [h16, cond_false] at h
 have h0 := fun (f : Int → Int) (g : Int → Int) (y : Int) (hg : ∀ i, g i = y) => anyL lines (fun l => !F29 l) (2 : Int) (Ze lines) (fun i hi => by
  simp only [Ze, ltD hi, cond_true, nn, Lf _ _ _ hi, Gf]
  rfl) (by simp only [Ze, geD, cond_false]) f g y hg
 have hany : (lines.any fun l => !F29 l) = false := by
  rw [Bool.eq_false_iff]
  intro hc
  obtain ⟨x, hx, hp⟩ := List.any_eq_true.1 hc
  rw [hk x hx] at hp
  cases hp
 rw [h0 (fun r => r) _ _ (fun _ => rfl), hany, cond_false] at h
 refine Qje fun i hi => ?_
 have h1 := fun (y : Int) => Zy (Ky lines) lines.length (fun k => !ltB (lines.getD (k - 1) default) (lines.getD k default)) (3 : Int) (fun r => r) y (fun k hk => by
  simp only [Ky, ltD hk, cond_true, nn]
  rw [show Int.toNat ((k : Int) - 1) = k - 1 by omega]; rfl) (by simp only [Ky, geD, cond_false]) (lines.length - 1) 1 (by omega) (Int.toNat ((lines.length : Int) - 1) + 1) (by omega)
 have h2 := h1 ((runL (Wa lines) ((Int.toNat ((lines.length : Int) - 0)) + 1) 0).fin (fun r => r) (fun i42 => 0))
 have h3 := h2.symm.trans h
 cases ha : anyF (fun k => !ltB (lines.getD (k - 1) default) (lines.getD k default)) 1 (lines.length - 1) with
 | true => rw [ha, cond_true] at h3; exact absurd h3 (by decide)
 | false =>
  have := Qgn _ _ ha (i + 1) (by omega) (by omega)
  simpa using this
def F19 (list : List ByteArray) : List ByteArray :=
 ((List.replicate (Int.toNat 0) ((⟨#[]⟩ : ByteArray) : ByteArray)) ++ list)
theorem fi19 (list : List ByteArray) (r : List ByteArray) (hF : r = (F19 list)) : (Imp (.l 1 eStr r) (.l 1 eStr (F19 list))) ∧ True := by cases hF; exact ⟨Imp.refl _, trivial⟩
def S19 (R : List ByteArray) (list : List ByteArray) : Spec := ⟨[.r (.c (.l 1 eStr list))], .ow (.l 1 eStr R), list.length ≤ 1000000000⟩
theorem ok19 (list : List ByteArray) : (S19 (F19 list) list).ok Tryz.prog 19 :=
 Qk mixed (fn := Tryz.f19) (ct := .seqk [(0, 0)] .no (.seq (.reg [(2, .dat (.l 1 eStr (List.replicate (Int.toNat 0) (w13_ : ByteArray)))), (4, .dat (.l 1 eStr ((List.replicate (Int.toNat 0) (w13_ : ByteArray)) ++ list)))]) .no)) Tryz.func19 (fun (hpre0 : list.length ≤ 1000000000) => kn list fun _ => ai (by first | omega | (simp only [lens, ib] at * <;> omega) : 0 ≤ (0 : Int) ∧ (0 : Int) ≤ (list.length : Int) ∧ (16 : Int) * (list.length : Int) ≤ 281474976710656) (ai (MakeOK.mk eStr (w13_ : ByteArray) (by exact ai ir trivial) : MakeOK 1 [.v (.string w13_)] (Int.toNat 0) (.l 1 eStr (List.replicate (Int.toNat 0) (w13_ : ByteArray)))) (ai (AppL.mk eStr (List.replicate (Int.toNat 0) (w13_ : ByteArray)) list (Imp.refl (.l 1 eStr (List.replicate (Int.toNat 0) (w13_ : ByteArray)))) ir (fun y => ⟨rfl, fun e he => by simp only [eStr, List.mem_cons, List.not_mem_nil, or_false] at he; rcases he with rfl <;> exact ⟨_, rfl⟩⟩) : AppL (.l 1 eStr (List.replicate (Int.toNat 0) (w13_ : ByteArray))) (.l 1 eStr list) 1 (.l 1 eStr ((List.replicate (Int.toNat 0) (w13_ : ByteArray)) ++ list))) (ai (by (try simp only [lens]); omega : ((List.replicate (Int.toNat 0) (w13_ : ByteArray)) ++ list).length * 16 ≤ 140737488355328) (fi19 list ((List.replicate (Int.toNat 0) (w13_ : ByteArray)) ++ list) rfl))))) (by kernel_rfl)
theorem as19 (list : List ByteArray) : F19 list = (list) := by
 simp [F19]
theorem oa19 (list : List ByteArray) : (S19 (list) list).ok Tryz.prog 19 := by
 intro hp; have h := ok19 list hp; rw [as19 list] at h; exact h
def F20 (x9 : List ByteArray) : List ByteArray :=
 Yw x9
def S20 (x9 : List ByteArray) : Spec := ⟨[.ow (.l 1 eStr x9) (some (.l 1 eStr (F20 x9)))], .tu [], x9.length ≤ 4000000000000000000⟩
theorem ok20 (x9 : List ByteArray) : (S20 x9).ok Tryz.prog 20 :=
 Qjx Qkb x9
theorem kc19a (list : List ByteArray) {K_ : Prop} (p0_ : list.length ≤ 1000000000) (k_ : K_) : (list.length ≤ 1000000000) ∧ (Imp (.l 1 eStr list) (.l 1 eStr list)) ∧ K_ := ⟨p0_, Imp.refl _, k_⟩
abbrev kh19a (list : List ByteArray) : Hint true Tryz.prog := .call 19 (S19 list list) (oa19 list) none
theorem kc20 (x9 : List ByteArray) {K_ : Prop} (p0_ : x9.length ≤ 4000000000000000000) (k_ : K_) : (x9.length ≤ 4000000000000000000) ∧ (Imp (.l 1 eStr x9) (.l 1 eStr x9)) ∧ K_ := ⟨p0_, Imp.refl _, k_⟩
abbrev kh20 (x9 : List ByteArray) : Hint true Tryz.prog := .call 20 (S20 x9) (ok20 x9) none
def Va (a : List ByteArray) (b : List ByteArray) : (List ByteArray × Int) → Lp (List ByteArray × Int) (List ByteArray) := fun (out1, v14) =>
 bif (decide (v14 < ((a ++ b).length : Int))) then (bif (!((F14 a ((a ++ b).getD (Int.toNat v14) default)) == (F14 b ((a ++ b).getD (Int.toNat v14) default)))) then (.next ((out1 ++ [((a ++ b).getD (Int.toNat v14) default)]), (v14 + 1))) else (.next (out1, (v14 + 1)))) else (.done (out1, v14))
def Nl (a : List ByteArray) (b : List ByteArray) : Lp (List ByteArray) (List ByteArray) :=
 (runL (Va a b) ((Int.toNat (((a ++ b).length : Int) - 0)) + 1) (([] : List ByteArray), 0)).fin Lp.ret (fun (out1, v14) => .done out1)
def F13 (a : List ByteArray) (b : List ByteArray) : List ByteArray :=
 (Nl a b).fin (fun r => r) (fun out => (F20 out))
abbrev My (a : List ByteArray) (b : List ByteArray) : Nat × (List ByteArray × Int) := (((Int.toNat (((a ++ b).length : Int) - 0)) + 1), (([] : List ByteArray), 0))
abbrev Qfs (a : List ByteArray) (b : List ByteArray) (m39 : Nat) (out1 : List ByteArray) (v14 : Int) : Prop := Int.toNat (((a ++ b).length : Int) - v14) < m39 ∧ (out1.length : Int) ≤ v14 ∧ v14 ≤ (a.length : Int) + (b.length : Int) ∧ (0 : Int) ≤ v14
abbrev Qmb (a : List ByteArray) (b : List ByteArray) : Lp (List ByteArray × Int) (List ByteArray) := LpX (Va a b) (My a b)
abbrev Ny (a : List ByteArray) (b : List ByteArray) (i : Nat × (List ByteArray × Int)) : Prop := LpJ (Va a b) (My a b) i (Qfs a b i.1 i.2.1 i.2.2)
abbrev Qkp (a : List ByteArray) (b : List ByteArray) (i : Nat × (List ByteArray × Int)) (m39 : Nat) (out1 : List ByteArray) (v14 : Int) : Prop := LpH (Va a b) (My a b) i m39 (out1, v14) (Qfs a b (m39 + 1) out1 v14)
abbrev Qkk (a : List ByteArray) (b : List ByteArray) (out1 : List ByteArray) (v14 : Int) (out1_ : List ByteArray) (v14_ : Int) (K39 : Prop) : Prop := (Rf (.int .i64 ((a ++ b).length : Int))) ∧ ((.int .i64 v14 : Value) = .int .i64 v14_) ∧ (Im (.l 1 eStr a)) ∧ (Im (.l 1 eStr b)) ∧ (Imp (.l 1 eStr out1) (.l 1 eStr out1_)) ∧ (Im (.l 1 eStr (a ++ b))) ∧ K39
theorem un13_0 (a : List ByteArray) (b : List ByteArray) (i : Nat × (List ByteArray × Int)) (h : Ny a b i) : Qkp a b i (i.1 - 1) i.2.1 i.2.2 := ⟨hd1 h.1 h.2.1, hd3 h.2.1, hd2 h.2.1, h.2.2⟩
theorem Qlx (a : List ByteArray) (b : List ByteArray) (i : Nat × (List ByteArray × Int)) (m39 : Nat) (out1 : List ByteArray) (v14 : Int) (hl : m39 < i.1) (e : runL (Va a b) m39 (out1, v14) = Qmb a b) (h : Qfs a b m39 out1 v14) : ∃ j : Nat × (List ByteArray × Int), Qkk a b out1 v14 j.2.1 j.2.2 (Ny a b j ∧ j.1 < i.1) := ⟨(m39, (out1, v14)), rfl, rfl, Imp.refl _, Imp.refl _, Imp.refl _, Imp.refl _, ⟨e, h⟩, hl⟩
theorem en13_0 (a : List ByteArray) (b : List ByteArray) (h : (([] : List ByteArray).length : Int) ≤ 0 ∧ 0 ≤ (a.length : Int) + (b.length : Int) ∧ (0 : Int) ≤ 0) : Qkk a b ([] : List ByteArray) 0 ([] : List ByteArray) 0 (Ny a b (My a b)) := ⟨rfl, rfl, Imp.refl _, Imp.refl _, Imp.refl _, Imp.refl _, rfl, Nat.lt_succ_self _, h⟩
abbrev Qfr (a : List ByteArray) (b : List ByteArray) (out : List ByteArray) : Prop := out.length ≤ 32 ∧ True
abbrev Qes (a : List ByteArray) (b : List ByteArray) (j : List ByteArray) : Prop := (Nl a b) = Lp.done j ∧ Qfr a b j
theorem jn13_0 (a : List ByteArray) (b : List ByteArray) (out : List ByteArray) (e : (Nl a b) = Lp.done out) (h : Qfr a b out) : ∃ j : List ByteArray, (Imp (.l 1 eStr out) (.l 1 eStr j)) ∧ Qes a b j := ⟨out, Imp.refl _, e, h⟩
theorem fi13 (a : List ByteArray) (b : List ByteArray) (r : List ByteArray) (hF : r = (F13 a b)) : (Imp (.l 1 eStr r) (.l 1 eStr (F13 a b))) ∧ True := by cases hF; exact ⟨Imp.refl _, trivial⟩
def S13 (a : List ByteArray) (b : List ByteArray) : Spec := ⟨[.r (.c (.l 1 eStr a)), .r (.c (.l 1 eStr b))], .ow (.l 1 eStr (F13 a b)), a.length ≤ 16 ∧ b.length ≤ 16 ∧ (∀ k : Nat, (a.getD k default).size ≤ 1048576) ∧ (∀ k : Nat, (b.getD k default).size ≤ 1048576)⟩
theorem ok13 (a : List ByteArray) (b : List ByteArray) : (S13 a b).ok Tryz.prog 13 :=
 Qk mixed (fn := Tryz.f13) (ct := .seqk [(0, 0), (1, 0)] .no (.seq (.reg [(0, .dat (.l 1 eStr ([] : List ByteArray)))]) (.cut (ι := List ByteArray) (fun j => (fun (out : List ByteArray) => (⟨[(5, some (.h 0 0))], [(0, some (.own 0 (.l 1 eStr out)))], 1⟩ : St)) j) (Qes a b) (.seqk [(0, 0), (1, 0), (5, 0), (12, 0)] (.reg [(1, kh19a a), (3, .dat (.l 1 eStr (a ++ b)))]) (.blk (.loop (ι := Nat × (List ByteArray × Int)) (fun i => (fun (out1 : List ByteArray) (v14 : Int) => (⟨[(0, some (.h 0 0)), (1, some (.h 1 0)), (5, some (.h 2 0)), (12, some (.h 3 0)), (13, some (.v (vI ((a ++ b).length : Int)))), (14, some (.v (vI v14)))], [(0, some (.shr none (.l 1 eStr a))), (1, some (.shr none (.l 1 eStr b))), (2, some (.own 2 (.l 1 eStr out1))), (3, some (.own 3 (.l 1 eStr (a ++ b))))], 4⟩ : St)) i.2.1 i.2.2) (Ny a b) (fun i => i.1) (My a b) (fun i => (fun (out1 : List ByteArray) (v14 : Int) => (.seq .no (.seq (.cond .no .no) (.seq (.blk (.seq .no (.seq (.reg [(2, kh14 a ((a ++ b).getD (Int.toNat v14) default)), (5, kh14 b ((a ++ b).getD (Int.toNat v14) default))]) (.cond (.reg [(3, .dat (.l 1 eStr (out1 ++ [((a ++ b).getD (Int.toNat v14) default)])))]) .no)))) (.reg [(0, .bnd)]))))) i.2.1 i.2.2)))) (fun j => (fun (out : List ByteArray) => (.seq (.reg [(1, kh20 out)]) (.seq .no .no))) j)))) Tryz.func13 (fun (hp : a.length ≤ 16 ∧ b.length ≤ 16 ∧ (∀ k : Nat, (a.getD k default).size ≤ 1048576) ∧ (∀ k : Nat, (b.getD k default).size ≤ 1048576)) => have hpre0 := hp.1; have hpre1 := hp.2.1; have hpre2 := hp.2.2.1; have hpre3 := hp.2.2.2; kn a fun _ => kn b fun _ => ai (bokr 1 eStr ([] : List ByteArray) fun _ => rfl) (ai (kc19a a (by first | omega | (simp only [lens, ib] at * <;> omega)) (ai (AppL.mk eStr a b (Imp.refl (.l 1 eStr a)) ir (fun y => ⟨rfl, fun e he => by simp only [eStr, List.mem_cons, List.not_mem_nil, or_false] at he; rcases he with rfl <;> exact ⟨_, rfl⟩⟩) : AppL (.l 1 eStr a) (.l 1 eStr b) 1 (.l 1 eStr (a ++ b))) (ai (by (try simp only [lens]); omega : (a ++ b).length * 16 ≤ 140737488355328) (kn a fun _ => kn b fun _ => kn ([] : List ByteArray) fun _ => kn (a ++ b) fun _ => ai (en13_0 a b (by refine ⟨?_, ?_, ?_⟩ <;> first | omega | (simp only [lens, ib] at * <;> omega) | (simp only [List.length_append] at *; omega) | omega)) (fun (i0 : Nat × (List ByteArray × Int)) (hi0 : Ny a b i0) => (fun (m0 : Nat) (out1 : List ByteArray) (v14 : Int) (hh0 : Qkp a b i0 m0 out1 v14) => have hI0 := hh0.1; have hl0 := hh0.2.1; have _ := hh0.2.2.1; have _ := hh0.2.2.2; ifd (v14 < ((a ++ b).length : Int)) (fun h2 _ => ai (by first | omega | (simp only [lens, ib] at * <;> omega) : ib v14 (a ++ b)) (kc14 a ((a ++ b).getD (Int.toNat v14) default) (kc14 b ((a ++ b).getD (Int.toNat v14) default) (ifb (!((F14 a ((a ++ b).getD (Int.toNat v14) default)) == (F14 b ((a ++ b).getD (Int.toNat v14) default)))) (fun h3 => ai (appr 1 eStr out1 [((a ++ b).getD (Int.toNat v14) default)] fun _ => rfl) (ai (by (try simp only [lens]); omega : (out1 ++ [((a ++ b).getD (Int.toNat v14) default)]).length * 16 ≤ 140737488355328) (ai (iok (v14 + 1) (by first | omega | (simp only [lens, ib] at * <;> omega))) (Qlx a b i0 m0 (out1 ++ [((a ++ b).getD (Int.toNat v14) default)]) (v14 + 1) hl0 (Qe hI0 (condT h2 (condT h3 rfl))) (by refine ⟨?_, ?_, ?_, ?_⟩ <;> first | omega | (simp only [lens, ib] at * <;> omega) | (simp only [List.length_append] at *; omega) | omega))))) (fun h3 => ai (iok (v14 + 1) (by first | omega | (simp only [lens, ib] at * <;> omega))) (Qlx a b i0 m0 out1 (v14 + 1) hl0 (Qe hI0 (condT h2 (condF h3 rfl))) (by refine ⟨?_, ?_, ?_, ?_⟩ <;> first | omega | (simp only [lens, ib] at * <;> omega) | (simp only [List.length_append] at *; omega) | omega))))))) (fun h2 _ => have hD0_4 : Qmb a b = Lp.done (out1, v14) := Qn hI0 (condF h2 rfl); jn13_0 a b out1 (Eq.symm (finD hD0_4 rfl)) (by refine ⟨?_, ?_⟩ <;> first | exact trivial | first | omega | (simp only [lens, ib] at * <;> omega) | (simp only [List.length_append] at *; omega)))) (i0.1 - 1) i0.2.1 i0.2.2 (un13_0 a b i0 hi0)))))) (fun (j : List ByteArray) (hj : Qes a b j) => (fun (out : List ByteArray) (hJ0_5 : (Nl a b) = Lp.done out) (hw : Qfr a b out) => have _ := hw.1; kc20 out (by first | omega | (simp only [lens, ib] at * <;> omega)) (fi13 a b (F20 out) (finD hJ0_5 rfl))) j hj.1 hj.2))) (by kernel_rfl)
theorem kc18 (lines : List ByteArray) {K_ : Prop} (p0_ : ∀ k : Nat, (lines.getD k default).size ≤ 1048576) (k_ : K_) : (∀ k : Nat, (lines.getD k default).size ≤ 1048576) ∧ (Imp (.l 1 eStr lines) (.l 1 eStr lines)) ∧ K_ := ⟨p0_, Imp.refl _, k_⟩
abbrev kh18 (lines : List ByteArray) : Hint false Tryz.prog := .call 18 (S18 lines) (ok18 lines) none
def F12 (lines : List ByteArray) : Bool :=
 ((F18 lines) == 0)
def S12 (lines : List ByteArray) : Spec := ⟨[.r (.c (.l 1 eStr lines))], .v (.bool (F12 lines)), lines.length ≤ 1048576 ∧ (∀ k : Nat, (lines.getD k default).size ≤ 1048576)⟩
theorem ok12 (lines : List ByteArray) : (S12 lines).ok Tryz.prog 12 false :=
 Qk mixed (fn := Tryz.f12) (ct := .seqk [(0, 0)] .no (.seq (.reg [(1, kh18 lines)]) .no)) Tryz.func12 (fun (hp : lines.length ≤ 1048576 ∧ (∀ k : Nat, (lines.getD k default).size ≤ 1048576)) => have hpre0 := hp.1; have hpre1 := hp.2; kn lines fun _ => kc18 lines (by first | assumption | exact hpre1 _ | exact fun k _ => hpre1 k | (intros; exact trivial) | (intros; exact Nat.zero_le _)) (fiB ((F18 lines) == 0) (F12 lines) rfl)) (by kernel_rfl)
theorem Jq (ws : List ByteArray) (x : ByteArray) : F14 ws x = decide (x ∈ ws) := by rw [Qau, Hu]
def oneP (a b : List ByteArray) (l : ByteArray) : Bool := !(decide (l ∈ a) == decide (l ∈ b))
theorem Xj (a b : List ByteArray) : F13 a b = Yw ((a ++ b).filter (oneP a b)) := by
 unfold F13 Nl
 have h := Kr (a ++ b) (fun (s : List ByteArray) x => bif oneP a b x then s ++ [x] else s) (fun s i => (s, i)) (Va a b) (fun i s hi => by
  simp only [Va, ltD hi, cond_true, nn, Jq]
  show (bif oneP a b ((a ++ b).getD i default) then _ else _) = _
  cases oneP a b ((a ++ b).getD i default) <;> rfl) (fun s => by simp only [Va, geD, cond_false]) (Lp.ret : List ByteArray → Lp (List ByteArray) (List ByteArray)) (fun x => .done x.1) []
 refine (congrArg (fun z : Lp (List ByteArray) (List ByteArray) => z.fin (fun r => r) (fun out => F20 out)) h).trans ?_
 show Yw _ = _
 rw [Bc (oneP a b) (fun x => x), List.nil_append, List.map_id']
theorem Qav {a b : List ByteArray} {z : ByteArray} : z ∈ F13 a b ↔ (z ∈ a ∧ z ∉ b) ∨ (z ∈ b ∧ z ∉ a) := by
 rw [Xj, Qji, List.mem_filter, List.mem_append]
 unfold oneP
 by_cases h1 : z ∈ a <;> by_cases h2 : z ∈ b <;> simp [h1, h2]
theorem Hk (a b : List ByteArray) (ha : a.length ≤ 16) (hb : b.length ≤ 16) : (F13 a b).length ≤ 32 := by
 rw [Xj, Yz]
 have := List.length_filter_le (oneP a b) (a ++ b)
 rw [List.length_append] at this
 omega
theorem Qpn {xs : List ByteArray} {n : Nat} (h : ∀ k : Nat, (xs.getD k default).size ≤ n) {x : ByteArray} (hx : x ∈ xs) : x.size ≤ n := by
 obtain ⟨k, hk, rfl⟩ := Nf hx
 exact h k
theorem Qrk {xs : List ByteArray} {n : Nat} (h : ∀ x ∈ xs, x.size ≤ n) (k : Nat) : (xs.getD k default).size ≤ n := by
 rw [List.getD_eq_getElem?_getD]
 cases hx : xs[k]? with
 | none => exact Nat.zero_le n
 | some x => exact h x (List.mem_of_getElem? hx)
theorem Qdj (a b : List ByteArray) (ha : ∀ k : Nat, (a.getD k default).size ≤ 1048576) (hb : ∀ k : Nat, (b.getD k default).size ≤ 1048576) : ∀ k : Nat, ((F13 a b).getD k default).size ≤ 1048576 :=
 Qrk fun x hx => by
  rcases Qav.1 hx with h | h
  ·exact Qpn ha h.1
  ·exact Qpn hb h.1
theorem neatI (lines : List ByteArray) (h : F12 lines = true) : F11 lines = 0 := by
 unfold F12 at h
 rw [Ra] at h
 exact eq_of_beq h
theorem Qr (lines : List ByteArray) (h : F12 lines = true) : lines.length ≤ 16 := Nr lines (neatI lines h)
theorem Zu {a b : List ByteArray} (h : (bif !F12 a then true else !F12 b) = false) : F12 a = true ∧ F12 b = true := by
 cases ha : F12 a <;> cases hb : F12 b <;> simp [ha, hb] at h ⊢
theorem kc12 (lines : List ByteArray) {K_ : Prop} (p0_ : lines.length ≤ 1048576) (p1_ : ∀ k : Nat, (lines.getD k default).size ≤ 1048576) (k_ : K_) : (lines.length ≤ 1048576 ∧ (∀ k : Nat, (lines.getD k default).size ≤ 1048576)) ∧ (Imp (.l 1 eStr lines) (.l 1 eStr lines)) ∧ K_ := ⟨⟨p0_, p1_⟩, Imp.refl _, k_⟩
abbrev kh12 (lines : List ByteArray) : Hint false Tryz.prog := .call 12 (S12 lines) (ok12 lines) none
theorem kg12 {K_ : Prop} (c_ b_ : Bool) (lines : List ByteArray) (p_ : c_ = b_ → lines.length ≤ 1048576 ∧ (∀ k : Nat, (lines.getD k default).size ≤ 1048576)) (k_ : K_) : (c_ = b_ → lines.length ≤ 1048576 ∧ (∀ k : Nat, (lines.getD k default).size ≤ 1048576)) ∧ (c_ = b_ → Imp (.l 1 eStr lines) (.l 1 eStr lines)) ∧ K_ := ⟨p_, fun _ => Imp.refl _, k_⟩
theorem kc13 (a : List ByteArray) (b : List ByteArray) {K_ : Prop} (p0_ : a.length ≤ 16) (p1_ : b.length ≤ 16) (p2_ : ∀ k : Nat, (a.getD k default).size ≤ 1048576) (p3_ : ∀ k : Nat, (b.getD k default).size ≤ 1048576) (q0_ : a.length ≤ 16) (q1_ : b.length ≤ 16) (q2_ : ∀ k : Nat, (a.getD k default).size ≤ 1048576) (q3_ : ∀ k : Nat, (b.getD k default).size ≤ 1048576) (k_ : ((F13 a b).length ≤ 32) → (∀ k : Nat, ((F13 a b).getD k default).size ≤ 1048576) → K_) : (a.length ≤ 16 ∧ b.length ≤ 16 ∧ (∀ k : Nat, (a.getD k default).size ≤ 1048576) ∧ (∀ k : Nat, (b.getD k default).size ≤ 1048576)) ∧ (Imp (.l 1 eStr a) (.l 1 eStr a)) ∧ (Imp (.l 1 eStr b) (.l 1 eStr b)) ∧ K_ := ⟨⟨p0_, p1_, p2_, p3_⟩, Imp.refl _, Imp.refl _, k_ (Hk a b q0_ q1_) (Qdj a b q2_ q3_)⟩
abbrev kh13f (a : List ByteArray) (b : List ByteArray) : Hint false Tryz.prog := .call 13 (S13 a b) ((ok13 a b).to false) none
abbrev kh14f (s : List ByteArray) (v1 : ByteArray) : Hint false Tryz.prog := .call 14 (S14 s v1) ((ok14 s v1).to false) none
abbrev w21_ : ByteArray := ⟨#[45, 32]⟩
abbrev w22_ : ByteArray := ⟨#[43, 32]⟩
def Jv (a : List ByteArray) (b : List ByteArray) : (List ByteArray × Int) → Lp (List ByteArray × Int) (List ByteArray) := fun (out, v21) =>
 bif (decide (v21 < ((F13 a b).length : Int))) then (bif (F14 a ((F13 a b).getD (Int.toNat v21) default)) then (.next ((out ++ [((⟨#[45, 32]⟩ : ByteArray) ++ ((F13 a b).getD (Int.toNat v21) default))]), (v21 + 1))) else (.next ((out ++ [((⟨#[43, 32]⟩ : ByteArray) ++ ((F13 a b).getD (Int.toNat v21) default))]), (v21 + 1)))) else (.done (out, v21))
def F7 (a : List ByteArray) (b : List ByteArray) : List ByteArray :=
 bif (bif (!(F12 a)) then true else (!(F12 b))) then ([] : List ByteArray) else ((runL (Jv a b) ((Int.toNat (((F13 a b).length : Int) - 0)) + 1) (([] : List ByteArray), 0)).fin (fun r => r) (fun (out, v21) => out))
abbrev Qce (a : List ByteArray) (b : List ByteArray) : Nat × (List ByteArray × Int) := (((Int.toNat (((F13 a b).length : Int) - 0)) + 1), (([] : List ByteArray), 0))
abbrev Qox (a : List ByteArray) (b : List ByteArray) (m39 : Nat) (out : List ByteArray) (v21 : Int) : Prop := Int.toNat (((F13 a b).length : Int) - v21) < m39 ∧ (out.length : Int) ≤ v21 ∧ (0 : Int) ≤ v21
abbrev lX7_0 (a : List ByteArray) (b : List ByteArray) : Lp (List ByteArray × Int) (List ByteArray) := LpX (Jv a b) (Qce a b)
abbrev Qcm (a : List ByteArray) (b : List ByteArray) (i : Nat × (List ByteArray × Int)) : Prop := LpJ (Jv a b) (Qce a b) i (Qox a b i.1 i.2.1 i.2.2)
abbrev lH7_0 (a : List ByteArray) (b : List ByteArray) (i : Nat × (List ByteArray × Int)) (m39 : Nat) (out : List ByteArray) (v21 : Int) : Prop := LpH (Jv a b) (Qce a b) i m39 (out, v21) (Qox a b (m39 + 1) out v21)
abbrev lE7_0 (a : List ByteArray) (b : List ByteArray) (out : List ByteArray) (v21 : Int) (out_ : List ByteArray) (v21_ : Int) (K39 : Prop) : Prop := (Rf (.int .i64 ((F13 a b).length : Int))) ∧ ((.int .i64 v21 : Value) = .int .i64 v21_) ∧ (Im (.l 1 eStr a)) ∧ (Imp (.l 1 eStr out) (.l 1 eStr out_)) ∧ (Im (.l 1 eStr (F13 a b))) ∧ K39
theorem un7_0 (a : List ByteArray) (b : List ByteArray) (i : Nat × (List ByteArray × Int)) (h : Qcm a b i) : lH7_0 a b i (i.1 - 1) i.2.1 i.2.2 := ⟨hd1 h.1 h.2.1, hd3 h.2.1, hd2 h.2.1, h.2.2⟩
theorem bk7_0 (a : List ByteArray) (b : List ByteArray) (i : Nat × (List ByteArray × Int)) (m39 : Nat) (out : List ByteArray) (v21 : Int) (hl : m39 < i.1) (e : runL (Jv a b) m39 (out, v21) = lX7_0 a b) (h : Qox a b m39 out v21) : ∃ j : Nat × (List ByteArray × Int), lE7_0 a b out v21 j.2.1 j.2.2 (Qcm a b j ∧ j.1 < i.1) := ⟨(m39, (out, v21)), rfl, rfl, Imp.refl _, Imp.refl _, Imp.refl _, ⟨e, h⟩, hl⟩
theorem en7_0 (a : List ByteArray) (b : List ByteArray) (h : (([] : List ByteArray).length : Int) ≤ 0 ∧ (0 : Int) ≤ 0) : lE7_0 a b ([] : List ByteArray) 0 ([] : List ByteArray) 0 (Qcm a b (Qce a b)) := ⟨rfl, rfl, Imp.refl _, Imp.refl _, Imp.refl _, rfl, Nat.lt_succ_self _, h⟩
theorem fi7 (a : List ByteArray) (b : List ByteArray) (r : List ByteArray) (hF : r = (F7 a b)) : (Imp (.l 1 eStr r) (.l 1 eStr (F7 a b))) ∧ True := by cases hF; exact ⟨Imp.refl _, trivial⟩
def S7 (a : List ByteArray) (b : List ByteArray) : Spec := ⟨[.r (.c (.l 1 eStr a)), .r (.c (.l 1 eStr b))], .ow (.l 1 eStr (F7 a b)), a.length ≤ 1048576 ∧ b.length ≤ 1048576 ∧ (∀ k : Nat, (a.getD k default).size ≤ 1048576) ∧ (∀ k : Nat, (b.getD k default).size ≤ 1048576)⟩
theorem ok7 (a : List ByteArray) (b : List ByteArray) : (S7 a b).ok Tryz.prog 7 false :=
 Qk mixed (fn := Tryz.f7) (ct := .seqk [(0, 0), (1, 0)] .no (.seq (.seq (.reg [(1, kh12 a), (5, kh12 b)]) (.cond (.seq .no .no) .no)) (.seq (.reg [(0, .dat (.l 1 eStr ([] : List ByteArray)))]) (.seq (.seqk [(0, 0), (5, 0), (19, 0)] (.reg [(2, kh13f a b)]) (.blk (.loop (ι := Nat × (List ByteArray × Int)) (fun i => (fun (out : List ByteArray) (v21 : Int) => (⟨[(0, some (.h 0 0)), (5, some (.h 1 0)), (19, some (.h 2 0)), (20, some (.v (vI ((F13 a b).length : Int)))), (21, some (.v (vI v21)))], [(0, some (.shr none (.l 1 eStr a))), (1, some (.own 1 (.l 1 eStr out))), (2, some (.own 2 (.l 1 eStr (F13 a b))))], 3⟩ : St)) i.2.1 i.2.2) (Qcm a b) (fun i => i.1) (Qce a b) (fun i => (fun (out : List ByteArray) (v21 : Int) => (.seq .no (.seq (.cond .no .no) (.seq (.blk (.seq .no (.seq (.reg [(2, kh14f a ((F13 a b).getD (Int.toNat v21) default))]) (.cond (.reg [(4, .dat (.l 1 eStr (out ++ [(w21_ ++ ((F13 a b).getD (Int.toNat v21) default))])))]) (.reg [(4, .dat (.l 1 eStr (out ++ [(w22_ ++ ((F13 a b).getD (Int.toNat v21) default))])))]))))) (.reg [(0, .bnd)]))))) i.2.1 i.2.2)))) (.seq .no .no))))) Tryz.func7 (fun (hp : a.length ≤ 1048576 ∧ b.length ≤ 1048576 ∧ (∀ k : Nat, (a.getD k default).size ≤ 1048576) ∧ (∀ k : Nat, (b.getD k default).size ≤ 1048576)) => have hpre0 := hp.1; have hpre1 := hp.2.1; have hpre2 := hp.2.2.1; have hpre3 := hp.2.2.2; kn a fun _ => kn b fun _ => kc12 a (by first | omega | (simp only [lens, ib] at * <;> omega)) (by first | assumption | exact hpre2 _ | exact fun k _ => hpre2 k | exact hpre3 _ | exact fun k _ => hpre3 k | (intros; exact trivial) | (intros; exact Nat.zero_le _)) (kg12 (!(F12 a)) false b (fun k1 => ⟨(by first | omega | (simp only [lens, ib] at * <;> omega)), (by first | assumption | exact hpre2 _ | exact fun k _ => hpre2 k | exact hpre3 _ | exact fun k _ => hpre3 k | (intros; exact trivial) | (intros; exact Nat.zero_le _))⟩) (ifb (bif (!(F12 a)) then true else (!(F12 b))) (fun h2 => (fun hF : (([] : List ByteArray) : List ByteArray) = (F7 a b) => ai ((Imp.nil 1 eStr).trans (Imp.of_eq (congrArg (fun r : List ByteArray => Dat.l 1 eStr r) hF))) trivial) (condT h2 rfl)) (fun h2 => ai (bokr 1 eStr ([] : List ByteArray) fun _ => rfl) (kc13 a b (by first | assumption | exact Qr _ (by assumption) | exact Qr _ (Zu (by assumption)).1 | exact Qr _ (Zu (by assumption)).2) (by first | assumption | exact Qr _ (by assumption) | exact Qr _ (Zu (by assumption)).1 | exact Qr _ (Zu (by assumption)).2) (by first | assumption | exact Qr _ (by assumption) | exact Qr _ (Zu (by assumption)).1 | exact Qr _ (Zu (by assumption)).2) (by first | assumption | exact Qr _ (by assumption) | exact Qr _ (Zu (by assumption)).1 | exact Qr _ (Zu (by assumption)).2) (by first | assumption | exact Qr _ (by assumption) | exact Qr _ (Zu (by assumption)).1 | exact Qr _ (Zu (by assumption)).2) (by first | assumption | exact Qr _ (by assumption) | exact Qr _ (Zu (by assumption)).1 | exact Qr _ (Zu (by assumption)).2) (by first | assumption | exact Qr _ (by assumption) | exact Qr _ (Zu (by assumption)).1 | exact Qr _ (Zu (by assumption)).2) (by first | assumption | exact Qr _ (by assumption) | exact Qr _ (Zu (by assumption)).1 | exact Qr _ (Zu (by assumption)).2) (fun gv3 gv4 => kn a fun _ => kn ([] : List ByteArray) fun _ => kn (F13 a b) fun _ => ai (en7_0 a b (by refine ⟨?_, ?_⟩ <;> first | omega | (simp only [lens, ib] at * <;> omega))) (fun (i0 : Nat × (List ByteArray × Int)) (hi0 : Qcm a b i0) => (fun (m0 : Nat) (out : List ByteArray) (v21 : Int) (hh0 : lH7_0 a b i0 m0 out v21) => have hI0 := hh0.1; have hl0 := hh0.2.1; have _ := hh0.2.2.1; have _ := hh0.2.2.2; ifd (v21 < ((F13 a b).length : Int)) (fun h6 _ => ai (by first | omega | (simp only [lens, ib] at * <;> omega) : ib v21 (F13 a b)) (kc14 a ((F13 a b).getD (Int.toNat v21) default) (ifb (F14 a ((F13 a b).getD (Int.toNat v21) default)) (fun h7 => ai (by (have hz := (by assumption : ∀ k : Nat, ((F13 a b).getD k default).size ≤ 1048576) (Int.toNat v21); have hs1 : w21_.size = 2 := rfl; have hs2 : w22_.size = 2 := rfl; omega) : ((w21_.size + ((F13 a b).getD (Int.toNat v21) default).size : Nat) : Int) ≤ 9223372036854775807) (ai (appr 1 eStr out [(w21_ ++ ((F13 a b).getD (Int.toNat v21) default))] fun _ => rfl) (ai (by (try simp only [lens]); omega : (out ++ [(w21_ ++ ((F13 a b).getD (Int.toNat v21) default))]).length * 16 ≤ 140737488355328) (ai (iok (v21 + 1) (by first | omega | (simp only [lens, ib] at * <;> omega))) (bk7_0 a b i0 m0 (out ++ [(w21_ ++ ((F13 a b).getD (Int.toNat v21) default))]) (v21 + 1) hl0 (Qe hI0 (condT h6 (condT h7 rfl))) (by refine ⟨?_, ?_, ?_⟩ <;> first | omega | (simp only [lens, ib] at * <;> omega))))))) (fun h7 => ai (by (have hz := (by assumption : ∀ k : Nat, ((F13 a b).getD k default).size ≤ 1048576) (Int.toNat v21); have hs1 : w21_.size = 2 := rfl; have hs2 : w22_.size = 2 := rfl; omega) : ((w22_.size + ((F13 a b).getD (Int.toNat v21) default).size : Nat) : Int) ≤ 9223372036854775807) (ai (appr 1 eStr out [(w22_ ++ ((F13 a b).getD (Int.toNat v21) default))] fun _ => rfl) (ai (by (try simp only [lens]); omega : (out ++ [(w22_ ++ ((F13 a b).getD (Int.toNat v21) default))]).length * 16 ≤ 140737488355328) (ai (iok (v21 + 1) (by first | omega | (simp only [lens, ib] at * <;> omega))) (bk7_0 a b i0 m0 (out ++ [(w22_ ++ ((F13 a b).getD (Int.toNat v21) default))]) (v21 + 1) hl0 (Qe hI0 (condT h6 (condF h7 rfl))) (by refine ⟨?_, ?_, ?_⟩ <;> first | omega | (simp only [lens, ib] at * <;> omega)))))))))) (fun h6 _ => have hD0_8 : lX7_0 a b = Lp.done (out, v21) := Qn hI0 (condF h6 rfl); fi7 a b out (condF h2 (finD hD0_8 rfl)))) (i0.1 - 1) i0.2.1 i0.2.2 (un7_0 a b i0 hi0)))))))) (by kernel_rfl)
theorem kc11 (lines : List ByteArray) {K_ : Prop} (p0_ : ∀ k : Nat, (lines.getD k default).size ≤ 1048576) (k_ : K_) : (∀ k : Nat, (lines.getD k default).size ≤ 1048576) ∧ (Imp (.l 1 eStr lines) (.l 1 eStr lines)) ∧ K_ := ⟨p0_, Imp.refl _, k_⟩
abbrev kh11 (lines : List ByteArray) : Hint true Tryz.prog := .call 11 (S11 lines) (ok11 lines) none
theorem kg11 {K_ : Prop} (c_ b_ : Bool) (lines : List ByteArray) (p_ : c_ = b_ → (∀ k : Nat, (lines.getD k default).size ≤ 1048576)) (k_ : K_) : (c_ = b_ → (∀ k : Nat, (lines.getD k default).size ≤ 1048576)) ∧ (c_ = b_ → Imp (.l 1 eStr lines) (.l 1 eStr lines)) ∧ K_ := ⟨p_, fun _ => Imp.refl _, k_⟩
def Wg (a : List ByteArray) (b : List ByteArray) : (List ByteArray × Int × Int) → Lp (List ByteArray × Int × Int) (List ByteArray) := fun (out, i40, k) =>
 bif (bif decide (i40 < (a.length : Int)) then true else decide (k < (b.length : Int))) then (bif (bif (k == (b.length : Int)) then true else (bif decide (i40 < (a.length : Int)) then (Op.bytesLess (a.getD (Int.toNat i40) default).toList (b.getD (Int.toNat k) default).toList) else false)) then (.next ((out ++ [((⟨#[45, 32]⟩ : ByteArray) ++ (a.getD (Int.toNat i40) default))]), (i40 + 1), k)) else (bif (bif (i40 == (a.length : Int)) then true else (Op.bytesLess (b.getD (Int.toNat k) default).toList (a.getD (Int.toNat i40) default).toList)) then (.next ((out ++ [((⟨#[43, 32]⟩ : ByteArray) ++ (b.getD (Int.toNat k) default))]), i40, (k + 1))) else (.next (out, (i40 + 1), (k + 1))))) else (.done (out, i40, k))
def F5 (a : List ByteArray) (b : List ByteArray) : List ByteArray :=
 bif (bif ((F11 a) != 0) then true else ((F11 b) != 0)) then ([] : List ByteArray) else ((runL (Wg a b) ((Int.toNat (((a.length : Int) - 0) + ((b.length : Int) - 0))) + 1) (([] : List ByteArray), 0, 0)).fin (fun r => r) (fun (out, i40, k) => out))
abbrev Qcv (a : List ByteArray) (b : List ByteArray) : Nat × (List ByteArray × Int × Int) := (((Int.toNat (((a.length : Int) - 0) + ((b.length : Int) - 0))) + 1), (([] : List ByteArray), 0, 0))
abbrev Qjv (a : List ByteArray) (b : List ByteArray) (m39 : Nat) (out : List ByteArray) (i40 : Int) (k : Int) : Prop := Int.toNat (((a.length : Int) - i40) + ((b.length : Int) - k)) < m39 ∧ (0 : Int) ≤ i40 ∧ (0 : Int) ≤ k ∧ i40 ≤ (a.length : Int) ∧ k ≤ (b.length : Int) ∧ (out.length : Int) ≤ i40 + k ∧ (0 : Int) ≤ i40 ∧ (0 : Int) ≤ k
abbrev lX5_0 (a : List ByteArray) (b : List ByteArray) : Lp (List ByteArray × Int × Int) (List ByteArray) := LpX (Wg a b) (Qcv a b)
abbrev Qca (a : List ByteArray) (b : List ByteArray) (i : Nat × (List ByteArray × Int × Int)) : Prop := LpJ (Wg a b) (Qcv a b) i (Qjv a b i.1 i.2.1 i.2.2.1 i.2.2.2)
abbrev lH5_0 (a : List ByteArray) (b : List ByteArray) (i : Nat × (List ByteArray × Int × Int)) (m39 : Nat) (out : List ByteArray) (i40 : Int) (k : Int) : Prop := LpH (Wg a b) (Qcv a b) i m39 (out, i40, k) (Qjv a b (m39 + 1) out i40 k)
abbrev lE5_0 (a : List ByteArray) (b : List ByteArray) (out : List ByteArray) (i40 : Int) (k : Int) (out_ : List ByteArray) (i40_ : Int) (k_ : Int) (K39 : Prop) : Prop := ((.int .i64 i40 : Value) = .int .i64 i40_) ∧ ((.int .i64 k : Value) = .int .i64 k_) ∧ (Im (.l 1 eStr a)) ∧ (Im (.l 1 eStr b)) ∧ (Imp (.l 1 eStr out) (.l 1 eStr out_)) ∧ K39
theorem un5_0 (a : List ByteArray) (b : List ByteArray) (i : Nat × (List ByteArray × Int × Int)) (h : Qca a b i) : lH5_0 a b i (i.1 - 1) i.2.1 i.2.2.1 i.2.2.2 := ⟨hd1 h.1 h.2.1, hd3 h.2.1, hd2 h.2.1, h.2.2⟩
theorem Qnb (a : List ByteArray) (b : List ByteArray) (i : Nat × (List ByteArray × Int × Int)) (m39 : Nat) (out : List ByteArray) (i40 : Int) (k : Int) (hl : m39 < i.1) (e : runL (Wg a b) m39 (out, i40, k) = lX5_0 a b) (h : Qjv a b m39 out i40 k) : ∃ j : Nat × (List ByteArray × Int × Int), lE5_0 a b out i40 k j.2.1 j.2.2.1 j.2.2.2 (Qca a b j ∧ j.1 < i.1) := ⟨(m39, (out, i40, k)), rfl, rfl, Imp.refl _, Imp.refl _, Imp.refl _, ⟨e, h⟩, hl⟩
theorem en5_0 (a : List ByteArray) (b : List ByteArray) (h : (0 : Int) ≤ 0 ∧ (0 : Int) ≤ 0 ∧ 0 ≤ (a.length : Int) ∧ 0 ≤ (b.length : Int) ∧ (([] : List ByteArray).length : Int) ≤ 0 + 0 ∧ (0 : Int) ≤ 0 ∧ (0 : Int) ≤ 0) : lE5_0 a b ([] : List ByteArray) 0 0 ([] : List ByteArray) 0 0 (Qca a b (Qcv a b)) := ⟨rfl, rfl, Imp.refl _, Imp.refl _, Imp.refl _, rfl, Nat.lt_succ_self _, h⟩
theorem fi5 (a : List ByteArray) (b : List ByteArray) (r : List ByteArray) (hF : r = (F5 a b)) : (Imp (.l 1 eStr r) (.l 1 eStr (F5 a b))) ∧ True := by cases hF; exact ⟨Imp.refl _, trivial⟩
def S5 (a : List ByteArray) (b : List ByteArray) : Spec := ⟨[.r (.c (.l 1 eStr a)), .r (.c (.l 1 eStr b))], .ow (.l 1 eStr (F5 a b)), a.length ≤ 1048576 ∧ b.length ≤ 1048576 ∧ (∀ k : Nat, (a.getD k default).size ≤ 1048576) ∧ (∀ k : Nat, (b.getD k default).size ≤ 1048576)⟩
theorem ok5 (a : List ByteArray) (b : List ByteArray) : (S5 a b).ok Tryz.prog 5 :=
 Qk mixed (fn := Tryz.f5) (ct := .seqk [(0, 0), (1, 0)] .no (.seq (.reg [(0, .dat (.l 1 eStr ([] : List ByteArray)))]) (.seq (.seq (.reg [(1, kh11 a), (5, kh11 b)]) (.cond (.seq .no .no) .no)) (.seq .no (.seqk [(0, 0), (1, 0), (5, 0)] .no (.seq (.blk (.loop (ι := Nat × (List ByteArray × Int × Int)) (fun i => (fun (out : List ByteArray) (i40 : Int) (k : Int) => (⟨[(0, some (.h 0 0)), (1, some (.h 1 0)), (5, some (.h 2 0)), (6, some (.v (vI i40))), (7, some (.v (vI k)))], [(0, some (.shr none (.l 1 eStr a))), (1, some (.shr none (.l 1 eStr b))), (2, some (.own 2 (.l 1 eStr out)))], 3⟩ : St)) i.2.1 i.2.2.1 i.2.2.2) (Qca a b) (fun i => i.1) (Qcv a b) (fun i => (fun (out : List ByteArray) (i40 : Int) (k : Int) => (.seq (.seq .no (.cond .no .no)) (.blk (.blk (.seq .no (.cond (.seq (.reg [(7, .dat (.l 1 eStr (out ++ [(w21_ ++ (a.getD (Int.toNat i40) default))])))]) (.reg [(1, .bnd)])) (.seq .no (.cond (.seq (.reg [(7, .dat (.l 1 eStr (out ++ [(w22_ ++ (b.getD (Int.toNat k) default))])))]) (.reg [(1, .bnd)])) (.seq (.reg [(1, .bnd)]) (.reg [(1, .bnd)])))))))))) i.2.1 i.2.2.1 i.2.2.2))) (.seq .no .no))))))) Tryz.func5 (fun (hp : a.length ≤ 1048576 ∧ b.length ≤ 1048576 ∧ (∀ k : Nat, (a.getD k default).size ≤ 1048576) ∧ (∀ k : Nat, (b.getD k default).size ≤ 1048576)) => have hpre0 := hp.1; have hpre1 := hp.2.1; have hpre2 := hp.2.2.1; have hpre3 := hp.2.2.2; kn a fun _ => kn b fun _ => ai (bokr 1 eStr ([] : List ByteArray) fun _ => rfl) (kc11 a (by first | assumption | exact hpre2 _ | exact fun k _ => hpre2 k | exact hpre3 _ | exact fun k _ => hpre3 k | (intros; exact trivial) | (intros; exact Nat.zero_le _)) (kg11 ((F11 a) != 0) false b (fun k1 => have _ := bneF k1; (by first | assumption | exact hpre2 _ | exact fun k _ => hpre2 k | exact hpre3 _ | exact fun k _ => hpre3 k | (intros; exact trivial) | (intros; exact Nat.zero_le _))) (ifb (bif ((F11 a) != 0) then true else ((F11 b) != 0)) (fun h2 => fi5 a b ([] : List ByteArray) (condT h2 rfl)) (fun h2 => have _ := bneF (orF1 h2); have _ := bneF (orF2 h2); kn a fun _ => kn b fun _ => kn ([] : List ByteArray) fun _ => ai (en5_0 a b (by refine ⟨?_, ?_, ?_, ?_, ?_, ?_, ?_⟩ <;> first | omega | (simp only [lens, ib] at * <;> omega) | omega | (simp only [Bool.cond_true_left, Bool.cond_false_right, Bool.or_eq_true, Bool.and_eq_true, Bool.or_eq_false_iff, Bool.and_eq_false_iff, decide_eq_true_eq, decide_eq_false_iff_not, beq_iff_eq, beq_eq_false_iff_ne, List.length_append, List.length_cons, List.length_nil] at *; omega))) (fun (i0 : Nat × (List ByteArray × Int × Int)) (hi0 : Qca a b i0) => (fun (m0 : Nat) (out : List ByteArray) (i40 : Int) (k : Int) (hh0 : lH5_0 a b i0 m0 out i40 k) => have hI0 := hh0.1; have hl0 := hh0.2.1; have _ := hh0.2.2.1; have _ := hh0.2.2.2; ifb (bif decide (i40 < (a.length : Int)) then true else decide (k < (b.length : Int))) (fun h4 => ai (fun k6 : (decide (i40 < (a.length : Int))) = true => have _ := of_decide_eq_true k6; (fun k5 : (k == (b.length : Int)) = false => have _ := beqF k5; (by (first | omega | (simp only [Bool.cond_true_left, Bool.cond_false_right, Bool.or_eq_true, Bool.and_eq_true, Bool.or_eq_false_iff, Bool.and_eq_false_iff, decide_eq_true_eq, decide_eq_false_iff_not, beq_iff_eq, beq_eq_false_iff_ne, List.length_append, List.length_cons, List.length_nil] at *; omega)) : 0 ≤ i40 ∧ i40 < (a.length : Int)))) (ai (fun k8 : (decide (i40 < (a.length : Int))) = true => have _ := of_decide_eq_true k8; (fun k7 : (k == (b.length : Int)) = false => have _ := beqF k7; (by (first | omega | (simp only [Bool.cond_true_left, Bool.cond_false_right, Bool.or_eq_true, Bool.and_eq_true, Bool.or_eq_false_iff, Bool.and_eq_false_iff, decide_eq_true_eq, decide_eq_false_iff_not, beq_iff_eq, beq_eq_false_iff_ne, List.length_append, List.length_cons, List.length_nil] at *; omega)) : 0 ≤ k ∧ k < (b.length : Int)))) (ifb (bif (k == (b.length : Int)) then true else (bif decide (i40 < (a.length : Int)) then (Op.bytesLess (a.getD (Int.toNat i40) default).toList (b.getD (Int.toNat k) default).toList) else false)) (fun h9 => ai (by (first | omega | (simp only [Bool.cond_true_left, Bool.cond_false_right, Bool.or_eq_true, Bool.and_eq_true, Bool.or_eq_false_iff, Bool.and_eq_false_iff, decide_eq_true_eq, decide_eq_false_iff_not, beq_iff_eq, beq_eq_false_iff_ne, List.length_append, List.length_cons, List.length_nil] at *; omega)) : 0 ≤ i40 ∧ i40 < (a.length : Int)) (ai (by (have hz := (by assumption : ∀ k : Nat, (a.getD k default).size ≤ 1048576) (Int.toNat i40); have hz2 := (by assumption : ∀ k : Nat, (b.getD k default).size ≤ 1048576) (Int.toNat k); have hs1 : w21_.size = 2 := rfl; have hs2 : w22_.size = 2 := rfl; omega) : ((w21_.size + (a.getD (Int.toNat i40) default).size : Nat) : Int) ≤ 9223372036854775807) (ai (appr 1 eStr out [(w21_ ++ (a.getD (Int.toNat i40) default))] fun _ => rfl) (ai (by (try simp only [lens]); omega : (out ++ [(w21_ ++ (a.getD (Int.toNat i40) default))]).length * 16 ≤ 140737488355328) (ai (iok (i40 + 1) (by first | omega | (simp only [lens, ib] at * <;> omega))) (Qnb a b i0 m0 (out ++ [(w21_ ++ (a.getD (Int.toNat i40) default))]) (i40 + 1) k hl0 (Qe hI0 (condT h4 (condT h9 rfl))) (by refine ⟨?_, ?_, ?_, ?_, ?_, ?_, ?_, ?_⟩ <;> first | omega | (simp only [lens, ib] at * <;> omega) | omega | (simp only [Bool.cond_true_left, Bool.cond_false_right, Bool.or_eq_true, Bool.and_eq_true, Bool.or_eq_false_iff, Bool.and_eq_false_iff, decide_eq_true_eq, decide_eq_false_iff_not, beq_iff_eq, beq_eq_false_iff_ne, List.length_append, List.length_cons, List.length_nil] at *; omega)))))))) (fun h9 => have _ := beqF (orF1 h9); ai (fun k10 : (i40 == (a.length : Int)) = false => have _ := beqF k10; (by (first | omega | (simp only [Bool.cond_true_left, Bool.cond_false_right, Bool.or_eq_true, Bool.and_eq_true, Bool.or_eq_false_iff, Bool.and_eq_false_iff, decide_eq_true_eq, decide_eq_false_iff_not, beq_iff_eq, beq_eq_false_iff_ne, List.length_append, List.length_cons, List.length_nil] at *; omega)) : 0 ≤ k ∧ k < (b.length : Int))) (ai (fun k11 : (i40 == (a.length : Int)) = false => have _ := beqF k11; (by (first | omega | (simp only [Bool.cond_true_left, Bool.cond_false_right, Bool.or_eq_true, Bool.and_eq_true, Bool.or_eq_false_iff, Bool.and_eq_false_iff, decide_eq_true_eq, decide_eq_false_iff_not, beq_iff_eq, beq_eq_false_iff_ne, List.length_append, List.length_cons, List.length_nil] at *; omega)) : 0 ≤ i40 ∧ i40 < (a.length : Int))) (ifb (bif (i40 == (a.length : Int)) then true else (Op.bytesLess (b.getD (Int.toNat k) default).toList (a.getD (Int.toNat i40) default).toList)) (fun h12 => ai (by (first | omega | (simp only [Bool.cond_true_left, Bool.cond_false_right, Bool.or_eq_true, Bool.and_eq_true, Bool.or_eq_false_iff, Bool.and_eq_false_iff, decide_eq_true_eq, decide_eq_false_iff_not, beq_iff_eq, beq_eq_false_iff_ne, List.length_append, List.length_cons, List.length_nil] at *; omega)) : 0 ≤ k ∧ k < (b.length : Int)) (ai (by (have hz := (by assumption : ∀ k : Nat, (a.getD k default).size ≤ 1048576) (Int.toNat i40); have hz2 := (by assumption : ∀ k : Nat, (b.getD k default).size ≤ 1048576) (Int.toNat k); have hs1 : w21_.size = 2 := rfl; have hs2 : w22_.size = 2 := rfl; omega) : ((w22_.size + (b.getD (Int.toNat k) default).size : Nat) : Int) ≤ 9223372036854775807) (ai (appr 1 eStr out [(w22_ ++ (b.getD (Int.toNat k) default))] fun _ => rfl) (ai (by (try simp only [lens]); omega : (out ++ [(w22_ ++ (b.getD (Int.toNat k) default))]).length * 16 ≤ 140737488355328) (ai (iok (k + 1) (by first | omega | (simp only [lens, ib] at * <;> omega))) (Qnb a b i0 m0 (out ++ [(w22_ ++ (b.getD (Int.toNat k) default))]) i40 (k + 1) hl0 (Qe hI0 (condT h4 (condF h9 (condT h12 rfl)))) (by refine ⟨?_, ?_, ?_, ?_, ?_, ?_, ?_, ?_⟩ <;> first | omega | (simp only [lens, ib] at * <;> omega) | omega | (simp only [Bool.cond_true_left, Bool.cond_false_right, Bool.or_eq_true, Bool.and_eq_true, Bool.or_eq_false_iff, Bool.and_eq_false_iff, decide_eq_true_eq, decide_eq_false_iff_not, beq_iff_eq, beq_eq_false_iff_ne, List.length_append, List.length_cons, List.length_nil] at *; omega)))))))) (fun h12 => have _ := beqF (orF1 h12); have _ := (orF2 h12); ai (iok (i40 + 1) (by first | omega | (simp only [lens, ib] at * <;> omega))) (ai (iok (k + 1) (by first | omega | (simp only [lens, ib] at * <;> omega))) (Qnb a b i0 m0 out (i40 + 1) (k + 1) hl0 (Qe hI0 (condT h4 (condF h9 (condF h12 rfl)))) (by refine ⟨?_, ?_, ?_, ?_, ?_, ?_, ?_, ?_⟩ <;> first | omega | (simp only [lens, ib] at * <;> omega) | omega | (simp only [Bool.cond_true_left, Bool.cond_false_right, Bool.or_eq_true, Bool.and_eq_true, Bool.or_eq_false_iff, Bool.and_eq_false_iff, decide_eq_true_eq, decide_eq_false_iff_not, beq_iff_eq, beq_eq_false_iff_ne, List.length_append, List.length_cons, List.length_nil] at *; omega))))))))))) (fun h4 => have _ := of_decide_eq_false (orF1 h4); have _ := of_decide_eq_false (orF2 h4); have hD0_13 : lX5_0 a b = Lp.done (out, i40, k) := Qn hI0 (condF h4 rfl); fi5 a b out (condF h2 (finD hD0_13 rfl)))) (i0.1 - 1) i0.2.1 i0.2.2.1 i0.2.2.2 (un5_0 a b i0 hi0))))))) (by kernel_rfl)
def Us : Nat → List ByteArray → List ByteArray → List (Bool × ByteArray)
 | 0, _, _ => []
 | _ + 1, [], [] => []
 | n + 1, x :: xs, [] => (true, x) :: Us n xs []
 | n + 1, [], y :: ys => (false, y) :: Us n [] ys
 | n + 1, x :: xs, y :: ys => bif ltB x y then (true, x) :: Us n xs (y :: ys) else bif ltB y x then (false, y) :: Us n (x :: xs) ys else Us n xs ys
def txtD (z : Bool × ByteArray) : ByteArray := bif z.1 then (⟨#[45, 32]⟩ : ByteArray) ++ z.2 else (⟨#[43, 32]⟩ : ByteArray) ++ z.2
def SymD (xs ys : List ByteArray) (z : ByteArray) : Prop := (z ∈ xs ∧ z ∉ ys) ∨ (z ∈ ys ∧ z ∉ xs)
theorem Xe {x : ByteArray} {ys : List ByteArray} (h : ∀ y ∈ ys, ltB x y = true) : x ∉ ys := fun hm => by
 have := h x hm
 rw [Wb] at this
 cases this
theorem Tq {x z : ByteArray} (h : ltB x z = true) : z ≠ x := fun e => by
 subst e
 rw [Wb] at h
 cases h
theorem Zs {x : ByteArray} {xs ys : List ByteArray} (h1 : ∀ z ∈ xs, ltB x z = true) (h2 : ∀ z ∈ ys, ltB x z = true) {z : ByteArray} (h : SymD xs ys z) : ltB x z = true := by
 rcases h with ⟨h, _⟩ | ⟨h, _⟩
 ·exact h1 z h
 ·exact h2 z h
theorem Kp : ∀ (n : Nat) (xs ys : List ByteArray), Zr xs → Zr ys → xs.length + ys.length ≤ n →
  Zr ((Us n xs ys).map (·.2)) ∧ (∀ z, z ∈ (Us n xs ys).map (·.2) ↔ SymD xs ys z) ∧ ∀ t z, (t, z) ∈ Us n xs ys → t = decide (z ∈ xs)
 | 0, [], [], _, _, _ => ⟨List.Pairwise.nil, fun z => by simp [Us, SymD], fun t z h => by simp [Us] at h⟩
 | 0, x :: xs, ys, _, _, h => by simp at h
 | 0, [], y :: ys, _, _, h => by simp at h
 | n + 1, [], [], _, _, _ => ⟨List.Pairwise.nil, fun z => by simp [Us, SymD], fun t z h => by simp [Us] at h⟩
 | n + 1, x :: xs, [], hx, hy, h => by
  obtain ⟨hx1, hx2⟩ := List.pairwise_cons.1 hx
  obtain ⟨k1, k2, k3⟩ := Kp n xs [] hx2 hy (by simp at h ⊢; omega)
  rw [Us]
  refine ⟨List.pairwise_cons.2 ⟨fun z hz => Zs hx1 (fun _ h => by cases h) ((k2 z).1 hz), k1⟩, fun z => ?_, fun t z hz => ?_⟩
  ·rw [List.map_cons, List.mem_cons, k2 z]
   simp [SymD]
  ·rcases List.mem_cons.1 hz with e | hz
   ·obtain ⟨rfl, rfl⟩ := Prod.mk.inj e
    simp
   ·have := k3 t z hz
    have hg := Zs hx1 (fun _ h => by cases h) ((k2 z).1 (List.mem_map.2 ⟨_, hz, rfl⟩))
    rw [this]
    simp [Tq hg]
 | n + 1, [], y :: ys, hx, hy, h => by
  obtain ⟨hy1, hy2⟩ := List.pairwise_cons.1 hy
  obtain ⟨k1, k2, k3⟩ := Kp n [] ys hx hy2 (by simp at h ⊢; omega)
  rw [Us]
  refine ⟨List.pairwise_cons.2 ⟨fun z hz => Zs (fun _ h => by cases h) hy1 ((k2 z).1 hz), k1⟩, fun z => ?_, fun t z hz => ?_⟩
  ·rw [List.map_cons, List.mem_cons, k2 z]
   simp [SymD]
  ·rcases List.mem_cons.1 hz with e | hz
   ·obtain ⟨rfl, rfl⟩ := Prod.mk.inj e
    simp
   ·exact k3 t z hz
 | n + 1, x :: xs, y :: ys, hx, hy, h => by
  obtain ⟨hx1, hx2⟩ := List.pairwise_cons.1 hx
  obtain ⟨hy1, hy2⟩ := List.pairwise_cons.1 hy
  rw [Us]
  cases hl : ltB x y with
  | true =>
   rw [cond_true]
   have hxy : ∀ z ∈ y :: ys, ltB x z = true := fun z hz => by
    rcases List.mem_cons.1 hz with rfl | hz
    ·exact hl
    ·exact Vu hl (hy1 z hz)
   obtain ⟨k1, k2, k3⟩ := Kp n xs (y :: ys) hx2 hy (by simp at h ⊢; omega)
   refine ⟨List.pairwise_cons.2 ⟨fun z hz => Zs hx1 hxy ((k2 z).1 hz), k1⟩, fun z => ?_, fun t z hz => ?_⟩
   ·rw [List.map_cons, List.mem_cons, k2 z]
    constructor
    ·rintro (rfl | hz)
     ·exact .inl ⟨List.mem_cons_self, Xe hxy⟩
     ·have hne := Tq (Zs hx1 hxy hz)
      rcases hz with ⟨h1, h2⟩ | ⟨h1, h2⟩
      ·exact .inl ⟨List.mem_cons_of_mem _ h1, h2⟩
      ·exact .inr ⟨h1, fun hm => (List.mem_cons.1 hm).elim hne h2⟩
    ·rintro (⟨h1, h2⟩ | ⟨h1, h2⟩)
     ·rcases List.mem_cons.1 h1 with rfl | h1
      ·exact .inl rfl
      ·exact .inr (.inl ⟨h1, h2⟩)
     ·exact .inr (.inr ⟨h1, fun hm => h2 (List.mem_cons_of_mem _ hm)⟩)
   ·rcases List.mem_cons.1 hz with e | hz
    ·obtain ⟨rfl, rfl⟩ := Prod.mk.inj e
     simp
    ·have hne := Tq (Zs hx1 hxy ((k2 z).1 (List.mem_map.2 ⟨_, hz, rfl⟩)))
     rw [k3 t z hz]
     simp [hne]
  | false =>
   rw [cond_false]
   cases hl2 : ltB y x with
   | true =>
    rw [cond_true]
    have hyx : ∀ z ∈ x :: xs, ltB y z = true := fun z hz => by
     rcases List.mem_cons.1 hz with rfl | hz
     ·exact hl2
     ·exact Vu hl2 (hx1 z hz)
    obtain ⟨k1, k2, k3⟩ := Kp n (x :: xs) ys hx hy2 (by simp at h ⊢; omega)
    refine ⟨List.pairwise_cons.2 ⟨fun z hz => Zs hyx hy1 ((k2 z).1 hz), k1⟩, fun z => ?_, fun t z hz => ?_⟩
    ·rw [List.map_cons, List.mem_cons, k2 z]
     constructor
     ·rintro (rfl | hz)
      ·exact .inr ⟨List.mem_cons_self, Xe hyx⟩
      ·have hne := Tq (Zs hyx hy1 hz)
       rcases hz with ⟨h1, h2⟩ | ⟨h1, h2⟩
       ·exact .inl ⟨h1, fun hm => (List.mem_cons.1 hm).elim hne h2⟩
       ·exact .inr ⟨List.mem_cons_of_mem _ h1, h2⟩
     ·rintro (⟨h1, h2⟩ | ⟨h1, h2⟩)
      ·exact .inr (.inl ⟨h1, fun hm => h2 (List.mem_cons_of_mem _ hm)⟩)
      ·rcases List.mem_cons.1 h1 with rfl | h1
       ·exact .inl rfl
       ·exact .inr (.inr ⟨h1, h2⟩)
    ·rcases List.mem_cons.1 hz with e | hz
     ·obtain ⟨rfl, rfl⟩ := Prod.mk.inj e
      exact (decide_eq_false (Xe hyx)).symm
     ·exact k3 t z hz
   | false =>
    rw [cond_false]
    have e : x = y := by
     rcases Qgl x y with h | h | h
     ·rw [hl] at h; cases h
     ·exact h
     ·rw [hl2] at h; cases h
    subst e
    obtain ⟨k1, k2, k3⟩ := Kp n xs ys hx2 hy2 (by simp at h ⊢; omega)
    refine ⟨k1, fun z => ?_, fun t z hz => ?_⟩
    ·rw [k2 z]
     constructor
     ·intro hz
      have hne := Tq (Zs hx1 hy1 hz)
      rcases hz with ⟨h1, h2⟩ | ⟨h1, h2⟩
      ·exact .inl ⟨List.mem_cons_of_mem _ h1, fun hm => (List.mem_cons.1 hm).elim hne h2⟩
      ·exact .inr ⟨List.mem_cons_of_mem _ h1, fun hm => (List.mem_cons.1 hm).elim hne h2⟩
     ·rintro (⟨h1, h2⟩ | ⟨h1, h2⟩)
      ·rcases List.mem_cons.1 h1 with rfl | h1
       ·exact absurd List.mem_cons_self h2
       ·exact .inl ⟨h1, fun hm => h2 (List.mem_cons_of_mem _ hm)⟩
      ·rcases List.mem_cons.1 h1 with rfl | h1
       ·exact absurd List.mem_cons_self h2
       ·exact .inr ⟨h1, fun hm => h2 (List.mem_cons_of_mem _ hm)⟩
    ·have hne := Tq (Zs hx1 hy1 ((k2 z).1 (List.mem_map.2 ⟨_, hz, rfl⟩)))
     rw [k3 t z hz]
     simp [hne]
theorem Ed (xs : List ByteArray) (i : Nat) (h : i < xs.length) : xs.drop i = xs.getD i default :: xs.drop (i + 1) := by
 rw [List.drop_eq_getElem_cons h, List.getD_eq_getElem?_getD, List.getElem?_eq_getElem h]; rfl
theorem Kl (a b : List ByteArray) (ha : a.length ≤ 16) (hb : b.length ≤ 16) : ∀ (n i k : Nat) (out : List ByteArray), i ≤ a.length → k ≤ b.length → (a.length - i) + (b.length - k) ≤ n → ∀ fuel, n < fuel →
  (runL (Wg a b) fuel (out, (i : Int), (k : Int))).fin (fun r => r) (fun (x : List ByteArray × Int × Int) => x.1) = out ++ (Us n (a.drop i) (b.drop k)).map txtD
 | n, i, k, out, hi, hk, hn, 0, hf => absurd hf (Nat.not_lt_zero _)
 | n, i, k, out, hi, hk, hn, fuel + 1, hf => by
  by_cases h1 : i < a.length
  ·obtain ⟨n, rfl⟩ : ∃ m, n = m + 1 := ⟨n - 1, by omega⟩
   have d1 := Ed a i h1
   by_cases h2 : k < b.length
   ·have d2 := Ed b k h2
    have e : Wg a b (out, (i : Int), (k : Int)) = bif ltB (a.getD i default) (b.getD k default) then .next (out ++ [(⟨#[45, 32]⟩ : ByteArray) ++ a.getD i default], ((i + 1 : Nat) : Int), (k : Int)) else bif ltB (b.getD k default) (a.getD i default) then .next (out ++ [(⟨#[43, 32]⟩ : ByteArray) ++ b.getD k default], (i : Int), ((k + 1 : Nat) : Int)) else .next (out, ((i + 1 : Nat) : Int), ((k + 1 : Nat) : Int)) := by
     simp only [Wg, ltD h1, cond_true, nn, show ((k : Int) == (b.length : Int)) = false from beq_eq_false_iff_ne.2 (by omega), show ((i : Int) == (a.length : Int)) = false from beq_eq_false_iff_ne.2 (by omega), cond_false]
     rfl
    rw [d1, d2, Us]
    cases hl : ltB (a.getD i default) (b.getD k default) with
    | true =>
     rw [hl, cond_true] at e
     rw [Ur _ e, Kl a b ha hb n (i + 1) k _ (by omega) hk (by omega) fuel (by omega), cond_true, List.map_cons, List.append_assoc, ← d2]; rfl
    | false =>
     rw [hl, cond_false] at e
     rw [cond_false]
     cases hl2 : ltB (b.getD k default) (a.getD i default) with
     | true =>
      rw [hl2, cond_true] at e
      rw [Ur _ e, Kl a b ha hb n i (k + 1) _ hi (by omega) (by omega) fuel (by omega), cond_true, List.map_cons, List.append_assoc, ← d1]; rfl
     | false =>
      rw [hl2, cond_false] at e
      rw [Ur _ e, Kl a b ha hb n (i + 1) (k + 1) _ (by omega) (by omega) (by omega) fuel (by omega), cond_false]
   ·obtain rfl : k = b.length := by omega
    have e : Wg a b (out, (i : Int), (b.length : Int)) = .next (out ++ [(⟨#[45, 32]⟩ : ByteArray) ++ a.getD i default], ((i + 1 : Nat) : Int), (b.length : Int)) := by
     simp only [Wg, ltD h1, cond_true, nn, show ((b.length : Int) == (b.length : Int)) = true from beq_self_eq_true _]
     rfl
    have d2 : b.drop b.length = [] := List.drop_of_length_le (Nat.le_refl _)
    rw [Ur _ e, Kl a b ha hb n (i + 1) b.length _ (by omega) (Nat.le_refl _) (by omega) fuel (by omega), d1, d2, Us, List.map_cons, List.append_assoc]; rfl
  ·obtain rfl : i = a.length := by omega
   have d1 : a.drop a.length = [] := List.drop_of_length_le (Nat.le_refl _)
   by_cases h2 : k < b.length
   ·obtain ⟨n, rfl⟩ : ∃ m, n = m + 1 := ⟨n - 1, by omega⟩
    have d2 := Ed b k h2
    have e : Wg a b (out, (a.length : Int), (k : Int)) = .next (out ++ [(⟨#[43, 32]⟩ : ByteArray) ++ b.getD k default], (a.length : Int), ((k + 1 : Nat) : Int)) := by
     simp only [Wg, geD, ltD h2, cond_true, cond_false, nn, show ((k : Int) == (b.length : Int)) = false from beq_eq_false_iff_ne.2 (by omega), show ((a.length : Int) == (a.length : Int)) = true from beq_self_eq_true _]
     rfl
    rw [Ur _ e, Kl a b ha hb n a.length (k + 1) _ (Nat.le_refl _) (by omega) (by omega) fuel (by omega), d1, d2, Us, List.map_cons, List.append_assoc]; rfl
   ·obtain rfl : k = b.length := by omega
    have e : Wg a b (out, (a.length : Int), (b.length : Int)) = .done (out, (a.length : Int), (b.length : Int)) := by
     simp only [Wg, geD, cond_false]
    have d2 : b.drop b.length = [] := List.drop_of_length_le (Nat.le_refl _)
    rw [Kd _ e, d1, d2]
    cases n <;> simp only [Us, List.map_nil, List.append_nil] <;> rfl
theorem Tk (a b : List ByteArray) : F7 a b = F5 a b := by
 unfold F7 F5
 have e : ∀ x : List ByteArray, (!F12 x) = (F11 x != 0) := fun x => by unfold F12; rw [Ra]; rfl
 rw [e, e]
 cases hn : (bif F11 a != 0 then true else F11 b != 0) with
 | true => rfl
 | false =>
  rw [cond_false, cond_false]
  obtain ⟨na, nb⟩ : F11 a = 0 ∧ F11 b = 0 := by
   cases h1 : (F11 a != 0) with
   | true => rw [h1, cond_true] at hn; cases hn
   | false => rw [h1, cond_false] at hn; exact ⟨by simpa using h1, by simpa using hn⟩
  have la := Nr a na
  have lb := Nr b nb
  have sa := Hn a na
  have sb := Hn b nb
  have hl := Kl a b la lb (Int.toNat (((a.length : Int) - 0) + ((b.length : Int) - 0))) 0 0 [] (Nat.zero_le _) (Nat.zero_le _) (by omega) _ (Nat.lt_succ_self _)
  refine Eq.trans ?_ hl.symm
  obtain ⟨k1, k2, k3⟩ := Kp (Int.toNat (((a.length : Int) - 0) + ((b.length : Int) - 0))) a b sa sb (by omega)
  rw [List.drop_zero, List.drop_zero, List.nil_append]
  generalize Us (Int.toNat (((a.length : Int) - 0) + ((b.length : Int) - 0))) a b = D at k1 k2 k3
  have hj : F13 a b = D.map (·.2) := by
   refine Ly ?_ k1 fun z => by rw [Qav, k2 z]; rfl
   rw [Xj]
   refine Qal _ ?_
   rw [List.nodup_iff_pairwise_ne, List.filter_append]
   refine List.pairwise_append.2 ⟨(Bk sa).filter _, (Bk sb).filter _, fun x hx y hy e => ?_⟩
   subst e
   obtain ⟨x1, x2⟩ := List.mem_filter.1 hx
   obtain ⟨y1, _⟩ := List.mem_filter.1 hy
   unfold oneP at x2
   simp [x1, y1] at x2
  have hf := Kr (F13 a b) (fun (s : List ByteArray) x => s ++ [txtD (decide (x ∈ a), x)]) (fun s i => (s, i)) (Jv a b) (fun i s hi => by
   simp only [Jv, ltD hi, cond_true, nn, Jq]
   unfold txtD
   cases decide ((F13 a b).getD i default ∈ a) <;> rfl) (fun s => by simp only [Jv, geD, cond_false]) (fun r => r) (fun (x : List ByteArray × Int) => x.1) []
  refine hf.trans ?_
  rw [Wy (fun x => txtD (decide (x ∈ a), x)), List.nil_append, hj, List.map_map]
  refine List.map_congr_left fun z hz => ?_
  obtain ⟨t, z⟩ := z
  show txtD (decide (z ∈ a), z) = txtD (t, z)
  rw [k3 t z hz]
theorem kc15 (k : Int) {K_ : Prop} (p0_ : k ≤ 1000000000) (k_ : K_) : (k ≤ 1000000000) ∧ (Imp (.v (vI k)) (.v (vI k))) ∧ K_ := ⟨p0_, Imp.refl _, k_⟩
abbrev kh15 (k : Int) : Hint true Tryz.prog := .call 15 (S15 k) (ok15 k) none
def Wj (a : List ByteArray) (k : Int) : (Int × Int × List ByteArray) → Lp (Int × Int × List ByteArray) (Int × List ByteArray) := fun (k400, i40, xs) =>
 bif (decide (i40 < (xs.length : Int))) then (.next ((k400 + 1), (i40 + 1), (xs.set (i40).toNat (F15 k400)))) else (.done (k400, i40, xs))
def F9 (a : List ByteArray) (k : Int) : Int × List ByteArray :=
 (runL (Wj a k) ((Int.toNat ((a.length : Int) - 0)) + 1) (k, 0, a)).fin (fun r => r) (fun (k400, i40, xs) => (k400, xs))
abbrev Qax (a : List ByteArray) (k : Int) : Nat × (Int × Int × List ByteArray) := (((Int.toNat ((a.length : Int) - 0)) + 1), (k, 0, a))
abbrev Qmi (a : List ByteArray) (m39 : Nat) (k400 : Int) (i40 : Int) (xs : List ByteArray) : Prop := Int.toNat ((xs.length : Int) - i40) < m39 ∧ (0 : Int) ≤ k400 ∧ k400 + ((xs.length : Int) - i40) ≤ 1000000000 ∧ (0 : Int) ≤ i40 ∧ xs.length = a.length
abbrev lX9_0 (a : List ByteArray) (k : Int) : Lp (Int × Int × List ByteArray) (Int × List ByteArray) := LpX (Wj a k) (Qax a k)
abbrev Qbe (a : List ByteArray) (k : Int) (i : Nat × (Int × Int × List ByteArray)) : Prop := LpJ (Wj a k) (Qax a k) i (Qmi a i.1 i.2.1 i.2.2.1 i.2.2.2)
abbrev lH9_0 (a : List ByteArray) (k : Int) (i : Nat × (Int × Int × List ByteArray)) (m39 : Nat) (k400 : Int) (i40 : Int) (xs : List ByteArray) : Prop := LpH (Wj a k) (Qax a k) i m39 (k400, i40, xs) (Qmi a (m39 + 1) k400 i40 xs)
abbrev lE9_0 (k400 : Int) (i40 : Int) (xs : List ByteArray) (k400_ : Int) (i40_ : Int) (xs_ : List ByteArray) (K39 : Prop) : Prop := ((.int .i64 k400 : Value) = .int .i64 k400_) ∧ ((.int .i64 i40 : Value) = .int .i64 i40_) ∧ (Imp (.l 1 eStr xs) (.l 1 eStr xs_)) ∧ K39
theorem un9_0 (a : List ByteArray) (k : Int) (i : Nat × (Int × Int × List ByteArray)) (h : Qbe a k i) : lH9_0 a k i (i.1 - 1) i.2.1 i.2.2.1 i.2.2.2 := ⟨hd1 h.1 h.2.1, hd3 h.2.1, hd2 h.2.1, h.2.2⟩
theorem bk9_0 (a : List ByteArray) (k : Int) (i : Nat × (Int × Int × List ByteArray)) (m39 : Nat) (k400 : Int) (i40 : Int) (xs : List ByteArray) (hl : m39 < i.1) (e : runL (Wj a k) m39 (k400, i40, xs) = lX9_0 a k) (h : Qmi a m39 k400 i40 xs) : ∃ j : Nat × (Int × Int × List ByteArray), lE9_0 k400 i40 xs j.2.1 j.2.2.1 j.2.2.2 (Qbe a k j ∧ j.1 < i.1) := ⟨(m39, (k400, i40, xs)), rfl, rfl, Imp.refl _, ⟨e, h⟩, hl⟩
theorem en9_0 (a : List ByteArray) (k : Int) (h : (0 : Int) ≤ k ∧ k + ((a.length : Int) - 0) ≤ 1000000000 ∧ (0 : Int) ≤ 0 ∧ a.length = a.length) : lE9_0 k 0 a k 0 a (Qbe a k (Qax a k)) := ⟨rfl, rfl, Imp.refl _, rfl, Nat.lt_succ_self _, h⟩
theorem fi9 (a : List ByteArray) (k : Int) (r : Int × List ByteArray) (hF : r = (F9 a k)) : ((.int .i64 r.1 : Value) = .int .i64 ((F9 a k).1)) ∧ (Imp (.l 1 eStr r.2) (.l 1 eStr ((F9 a k).2))) ∧ True := by cases hF; exact ⟨rfl, Imp.refl _, trivial⟩
def S9 (a : List ByteArray) (k : Int) : Spec := ⟨[.ow (.l 1 eStr a) (some (.l 1 eStr ((F9 a k).2))), .r (.c (.v (vI k)))], .v (vI ((F9 a k).1)), 0 ≤ k ∧ k + (a.length : Int) ≤ 1000000000⟩
theorem ok9 (a : List ByteArray) (k : Int) : (S9 a k).ok Tryz.prog 9 :=
 Qk mixed (fn := Tryz.f9) (ct := .seqk [(0, 0)] .no (.seq (.seqk [(0, 0)] .no (.blk (.loop (ι := Nat × (Int × Int × List ByteArray)) (fun i => (fun (k400 : Int) (i40 : Int) (xs : List ByteArray) => (⟨[(0, some (.h 0 0)), (1, some (.v (vI k400))), (5, some (.v (vI i40)))], [(0, some (.own 0 (.l 1 eStr xs)))], 1⟩ : St)) i.2.1 i.2.2.1 i.2.2.2) (Qbe a k) (fun i => i.1) (Qax a k) (fun i => (fun (k400 : Int) (i40 : Int) (xs : List ByteArray) => (.seq (.seq .no (.cond .no .no)) (.seq (.blk (.seq (.reg [(3, kh15 k400), (5, .dat (.l 1 eStr (xs.set (i40).toNat (F15 k400))))]) (.reg [(1, .bnd)]))) (.reg [(1, .bnd)])))) i.2.1 i.2.2.1 i.2.2.2)))) (.seq .no .no))) Tryz.func9 (fun (hp : 0 ≤ k ∧ k + (a.length : Int) ≤ 1000000000) => have hpre0 := hp.1; have hpre1 := hp.2; kn a fun _ => kn a fun _ => ai (en9_0 a k (by refine ⟨?_, ?_, ?_, ?_⟩ <;> first | omega | (simp only [lens, ib] at * <;> omega))) (fun (i0 : Nat × (Int × Int × List ByteArray)) (hi0 : Qbe a k i0) => (fun (m0 : Nat) (k400 : Int) (i40 : Int) (xs : List ByteArray) (hh0 : lH9_0 a k i0 m0 k400 i40 xs) => have hI0 := hh0.1; have hl0 := hh0.2.1; have _ := hh0.2.2.1; have _ := hh0.2.2.2; ifd (i40 < (xs.length : Int)) (fun h2 _ => kc15 k400 (by first | omega | (simp only [lens, ib] at * <;> omega)) (ai (by first | omega | (simp only [lens, ib] at * <;> omega) : ib i40 xs) (ai (setr 1 eStr xs (i40).toNat (F15 k400)) (ai (iok (k400 + 1) (by first | omega | (simp only [lens, ib] at * <;> omega))) (ai (iok (i40 + 1) (by first | omega | (simp only [lens, ib] at * <;> omega))) (bk9_0 a k i0 m0 (k400 + 1) (i40 + 1) (xs.set (i40).toNat (F15 k400)) hl0 (Qe hI0 (condT h2 rfl)) (by refine ⟨?_, ?_, ?_, ?_, ?_⟩ <;> first | omega | (simp only [lens, ib] at * <;> omega)))))))) (fun h2 _ => have hD0_3 : lX9_0 a k = Lp.done (k400, i40, xs) := Qn hI0 (condF h2 rfl); fi9 a k (k400, xs) (finD hD0_3 rfl))) (i0.1 - 1) i0.2.1 i0.2.2.1 i0.2.2.2 (un9_0 a k i0 hi0))) (by kernel_rfl)
theorem g9_0 (a : List ByteArray) (k : Int) : (F9 a k).2.length = a.length := by
 have h := Yd (step := Wj a k) (fun i (s : Int × List ByteArray) => (s.1, (i : Int), s.2)) a.length (fun _ s => s.2.length = a.length) (fun _ => False) (fun i s hi hs => .inl ⟨(s.1 + 1, s.2.set i (F15 s.1)), by simp only [Wj, hs, decide_eq_true (show (i : Int) < (a.length : Int) by omega), cond_true, Int.toNat_natCast]; rfl, by simpa using hs⟩) (fun s hs => by simp only [Wj, hs, decide_eq_false (show ¬ (a.length : Int) < (a.length : Int) by omega), cond_false]) a.length 0 (k, a) (by omega) rfl (Int.toNat ((a.length : Int) - 0) + 1) (by omega)
 show ((runL (Wj a k) (Int.toNat ((a.length : Int) - 0) + 1) (k, 0, a)).fin (fun r => r) (fun (k400, i40, xs) => (k400, xs))).2.length = a.length
 rcases h with ⟨s, e, hs⟩ | ⟨r, _, hr⟩
 ·rw [show (k, (0 : Int), a) = ((k, a).1, ((0 : Nat) : Int), (k, a).2) from rfl, e]; exact hs
 ·exact hr.elim
def Jr (a : List ByteArray) (k : Int) : (Int × Int) → Lp (Int × Int) Int := fun (k400, i40) =>
 bif (decide (i40 < (a.length : Int))) then (bif (!((a.getD (Int.toNat i40) default).toList == (F15 k400).toList)) then (.ret (-1)) else (.next ((k400 + 1), (i40 + 1)))) else (.done (k400, i40))
def F10 (a : List ByteArray) (k : Int) : Int :=
 (runL (Jr a k) ((Int.toNat ((a.length : Int) - 0)) + 1) (k, 0)).fin (fun r => r) (fun (k400, i40) => k400)
abbrev Nn (a : List ByteArray) (k : Int) : Nat × (Int × Int) := (((Int.toNat ((a.length : Int) - 0)) + 1), (k, 0))
abbrev Qdo (a : List ByteArray) (m39 : Nat) (k400 : Int) (i40 : Int) : Prop := Int.toNat ((a.length : Int) - i40) < m39 ∧ (0 : Int) ≤ k400 ∧ k400 + ((a.length : Int) - i40) ≤ 1000000000 ∧ (0 : Int) ≤ i40
abbrev Qmg (a : List ByteArray) (k : Int) : Lp (Int × Int) Int := LpX (Jr a k) (Nn a k)
abbrev Lc (a : List ByteArray) (k : Int) (i : Nat × (Int × Int)) : Prop := LpJ (Jr a k) (Nn a k) i (Qdo a i.1 i.2.1 i.2.2)
abbrev Qmu (a : List ByteArray) (k : Int) (i : Nat × (Int × Int)) (m39 : Nat) (k400 : Int) (i40 : Int) : Prop := LpH (Jr a k) (Nn a k) i m39 (k400, i40) (Qdo a (m39 + 1) k400 i40)
abbrev Qmh (a : List ByteArray) (k400 : Int) (i40 : Int) (k400_ : Int) (i40_ : Int) (K39 : Prop) : Prop := ((.int .i64 k400 : Value) = .int .i64 k400_) ∧ ((.int .i64 i40 : Value) = .int .i64 i40_) ∧ (Im (.l 1 eStr a)) ∧ K39
theorem un10_0 (a : List ByteArray) (k : Int) (i : Nat × (Int × Int)) (h : Lc a k i) : Qmu a k i (i.1 - 1) i.2.1 i.2.2 := ⟨hd1 h.1 h.2.1, hd3 h.2.1, hd2 h.2.1, h.2.2⟩
theorem bk10_0 (a : List ByteArray) (k : Int) (i : Nat × (Int × Int)) (m39 : Nat) (k400 : Int) (i40 : Int) (hl : m39 < i.1) (e : runL (Jr a k) m39 (k400, i40) = Qmg a k) (h : Qdo a m39 k400 i40) : ∃ j : Nat × (Int × Int), Qmh a k400 i40 j.2.1 j.2.2 (Lc a k j ∧ j.1 < i.1) := ⟨(m39, (k400, i40)), rfl, rfl, Imp.refl _, ⟨e, h⟩, hl⟩
theorem en10_0 (a : List ByteArray) (k : Int) (h : (0 : Int) ≤ k ∧ k + ((a.length : Int) - 0) ≤ 1000000000 ∧ (0 : Int) ≤ 0) : Qmh a k 0 k 0 (Lc a k (Nn a k)) := ⟨rfl, rfl, Imp.refl _, rfl, Nat.lt_succ_self _, h⟩
def S10 (a : List ByteArray) (k : Int) : Spec := ⟨[.r (.c (.l 1 eStr a)), .r (.c (.v (vI k)))], .v (vI (F10 a k)), 0 ≤ k ∧ k + (a.length : Int) ≤ 1000000000⟩
theorem ok10 (a : List ByteArray) (k : Int) : (S10 a k).ok Tryz.prog 10 :=
 Qk mixed (fn := Tryz.f10) (ct := .seqk [(0, 0)] .no (.seq (.seqk [(0, 0)] .no (.blk (.loop (ι := Nat × (Int × Int)) (fun i => (fun (k400 : Int) (i40 : Int) => (⟨[(0, some (.h 0 0)), (1, some (.v (vI k400))), (5, some (.v (vI i40)))], [(0, some (.shr none (.l 1 eStr a)))], 1⟩ : St)) i.2.1 i.2.2) (Lc a k) (fun i => i.1) (Nn a k) (fun i => (fun (k400 : Int) (i40 : Int) => (.seq (.seq .no (.cond .no .no)) (.seq (.blk (.seq (.seq (.reg [(5, kh15 k400)]) (.cond (.seq .no .no) .no)) (.reg [(1, .bnd)]))) (.reg [(1, .bnd)])))) i.2.1 i.2.2)))) (.seq .no .no))) Tryz.func10 (fun (hp : 0 ≤ k ∧ k + (a.length : Int) ≤ 1000000000) => have hpre0 := hp.1; have hpre1 := hp.2; kn a fun _ => kn a fun _ => ai (en10_0 a k (by refine ⟨?_, ?_, ?_⟩ <;> omega)) (fun (i0 : Nat × (Int × Int)) (hi0 : Lc a k i0) => (fun (m0 : Nat) (k400 : Int) (i40 : Int) (hh0 : Qmu a k i0 m0 k400 i40) => have hI0 := hh0.1; have hl0 := hh0.2.1; have _ := hh0.2.2.1; have _ := hh0.2.2.2; ifd (i40 < (a.length : Int)) (fun h2 _ => ai (by omega : ib i40 a) (kc15 k400 (by omega) (ifb (!((a.getD (Int.toNat i40) default).toList == (F15 k400).toList)) (fun h3 => fiI (-1) (F10 a k) (finR (Qz hI0 (condT h2 (condT h3 rfl))) rfl)) (fun h3 => ai (iok (k400 + 1) (by omega)) (ai (iok (i40 + 1) (by omega)) (bk10_0 a k i0 m0 (k400 + 1) (i40 + 1) hl0 (Qe hI0 (condT h2 (condF h3 rfl))) (by refine ⟨?_, ?_, ?_, ?_⟩ <;> omega))))))) (fun h2 _ => have hD0_4 : Qmg a k = Lp.done (k400, i40) := Qn hI0 (condF h2 rfl); fiI k400 (F10 a k) (finD hD0_4 rfl))) (i0.1 - 1) i0.2.1 i0.2.2 (un10_0 a k i0 hi0))) (by kernel_rfl)
theorem mk9 : Mk F9 F10 (sumL (fun _ => 1)) :=
 Qjd (fun (x : ByteArray) (k : Int) => ((k + 1), (F15 k))) (fun (x : ByteArray) (k : Int) => (bif (!(x.toList == (F15 k).toList)) then (-1) else (k + 1))) (fun _ => 1)
  (fun x k h0 h1 => by
   simp (discharger := omega) only [Ww, bne_self_eq_false, beq_self_eq_true, cond_false, cond_true, Bool.not_true, Bool.not_false, neg_lt, and_self] <;> omega)
  F9 F10 Wj Jr (fun a k => rfl) (fun a k0 k i xs => rfl) (fun a k => rfl)
  (fun a k0 k i hi h0 hh => by
   obtain ⟨c0, hh⟩ := Qrv hh
   simp only [Jr, decide_eq_true hi, cond_true, c0, cond_false])
  (fun a k0 k => by simp only [Jr, geD, cond_false])
theorem mk9a (x : List ByteArray) (k : Int) (h0 : 0 ≤ k) (h1 : k + ((sumL (fun _ => 1)) x : Int) < 9223372036854775807) : (F9 x k).1 = k + (sumL (fun _ => 1)) x := (mk9 x k h0 h1).1
theorem mk9b (x : List ByteArray) (k : Int) (h0 : 0 ≤ k) (h1 : k + ((sumL (fun _ => 1)) x : Int) < 9223372036854775807) : F10 (F9 x k).2 k = k + (sumL (fun _ => 1)) x := (mk9 x k h0 h1).2
theorem Md (a : List ByteArray) (k : Int) : (F9 a k).1 = k + (a.length : Int) := by
 have h := Yd (step := Wj a k) (fun i (s : Int × List ByteArray) => (s.1, (i : Int), s.2)) a.length (fun i s => s.2.length = a.length ∧ s.1 = k + (i : Int)) (fun _ => False) (fun i s hi hs => .inl ⟨(s.1 + 1, s.2.set i (F15 s.1)), by simp only [Wj, hs.1, decide_eq_true (show (i : Int) < (a.length : Int) by omega), cond_true, Int.toNat_natCast]; rfl, by
   refine ⟨by simpa using hs.1, ?_⟩
   have := hs.2
   show s.1 + 1 = k + ((i + 1 : Nat) : Int)
   omega⟩) (fun s hs => by simp only [Wj, hs.1, decide_eq_false (show ¬ (a.length : Int) < (a.length : Int) by omega), cond_false]) a.length 0 (k, a) (by omega) ⟨rfl, by simp⟩ (Int.toNat ((a.length : Int) - 0) + 1) (by omega)
 show ((runL (Wj a k) (Int.toNat ((a.length : Int) - 0) + 1) (k, 0, a)).fin (fun r => r) (fun (k400, i40, xs) => (k400, xs))).1 = k + (a.length : Int)
 rcases h with ⟨s, e, hs⟩ | ⟨r, _, hr⟩
 ·rw [show (k, (0 : Int), a) = ((k, a).1, ((0 : Nat) : Int), (k, a).2) from rfl, e]; exact hs.2
 ·exact hr.elim
theorem Bw {α : Type} : ∀ l : List α, sumL (fun _ => 1) l = l.length
 | [] => rfl
 | a :: l => by
  rw [Wt, Bw l, List.length_cons]
  omega
theorem marked (w : List ByteArray) (h : w.length ≤ 1000000) : F10 (F9 w 1).2 1 = 1 + (w.length : Int) ∧ (F9 w 1).1 = 1 + (w.length : Int) := by
 have h1 := mk9a w 1 (by omega) (by rw [Bw]; omega)
 have h2 := mk9b w 1 (by omega) (by rw [Bw]; omega)
 rw [Bw] at h1 h2
 exact ⟨h2, h1⟩
theorem Ym (a b : List ByteArray) (ha : a.length ≤ 1048576) (hb : b.length ≤ 1048576) : (F7 a b).length ≤ 1000000 := by
 unfold F7
 cases hn : (bif (!F12 a) then true else (!F12 b)) with
 | true => exact Nat.zero_le _
 | false =>
  rw [cond_false]
  obtain ⟨na, nb⟩ := Zu hn
  have hf := Kr (F13 a b) (fun (s : List ByteArray) x => s ++ [txtD (decide (x ∈ a), x)]) (fun s i => (s, i)) (Jv a b) (fun i s hi => by
   simp only [Jv, ltD hi, cond_true, nn, Jq]
   unfold txtD
   cases decide ((F13 a b).getD i default ∈ a) <;> rfl) (fun s => by simp only [Jv, geD, cond_false]) (fun r => r) (fun (x : List ByteArray × Int) => x.1) []
  refine Nat.le_trans (Nat.le_of_eq (congrArg List.length hf)) ?_
  rw [Wy (fun x => txtD (decide (x ∈ a), x)), List.nil_append, List.length_map]
  have := Hk a b (Qr a na) (Qr b nb)
  omega
theorem Uv (a b : List ByteArray) (ha : a.length ≤ 1048576) (hb : b.length ≤ 1048576) : (F5 a b).length ≤ 1000000 := by
 rw [← Tk]
 exact Ym a b ha hb
def Tn (a : List ByteArray) : (Int × List ByteArray) → Lp (Int × List ByteArray) (List ByteArray) := fun (i40, xs) =>
 bif (decide (i40 < (a.length : Int))) then (.next ((i40 + 1), (xs.set (i40).toNat (a.getD (Int.toNat i40) default)))) else (.done (i40, xs))
def F6 (a : List ByteArray) : List ByteArray :=
 (runL (Tn a) ((Int.toNat ((a.length : Int) - 0)) + 1) (0, (List.replicate (Int.toNat (a.length : Int)) ((⟨#[]⟩ : ByteArray) : ByteArray)))).fin (fun r => r) (fun (i40, xs) => xs)
abbrev Qbn (a : List ByteArray) : Nat × (Int × List ByteArray) := (((Int.toNat ((a.length : Int) - 0)) + 1), (0, (List.replicate (Int.toNat (a.length : Int)) (w13_ : ByteArray))))
abbrev Qkr (a : List ByteArray) (m39 : Nat) (i40 : Int) (xs : List ByteArray) : Prop := Int.toNat ((a.length : Int) - i40) < m39 ∧ (0 : Int) ≤ i40 ∧ xs.length = (List.replicate (Int.toNat (a.length : Int)) (w13_ : ByteArray)).length
abbrev lX6_0 (a : List ByteArray) : Lp (Int × List ByteArray) (List ByteArray) := LpX (Tn a) (Qbn a)
abbrev Qbu (a : List ByteArray) (i : Nat × (Int × List ByteArray)) : Prop := LpJ (Tn a) (Qbn a) i (Qkr a i.1 i.2.1 i.2.2)
abbrev lH6_0 (a : List ByteArray) (i : Nat × (Int × List ByteArray)) (m39 : Nat) (i40 : Int) (xs : List ByteArray) : Prop := LpH (Tn a) (Qbn a) i m39 (i40, xs) (Qkr a (m39 + 1) i40 xs)
abbrev lE6_0 (a : List ByteArray) (i40 : Int) (xs : List ByteArray) (i40_ : Int) (xs_ : List ByteArray) (K39 : Prop) : Prop := ((.int .i64 i40 : Value) = .int .i64 i40_) ∧ (Im (.l 1 eStr a)) ∧ (Imp (.l 1 eStr xs) (.l 1 eStr xs_)) ∧ K39
theorem un6_0 (a : List ByteArray) (i : Nat × (Int × List ByteArray)) (h : Qbu a i) : lH6_0 a i (i.1 - 1) i.2.1 i.2.2 := ⟨hd1 h.1 h.2.1, hd3 h.2.1, hd2 h.2.1, h.2.2⟩
theorem bk6_0 (a : List ByteArray) (i : Nat × (Int × List ByteArray)) (m39 : Nat) (i40 : Int) (xs : List ByteArray) (hl : m39 < i.1) (e : runL (Tn a) m39 (i40, xs) = lX6_0 a) (h : Qkr a m39 i40 xs) : ∃ j : Nat × (Int × List ByteArray), lE6_0 a i40 xs j.2.1 j.2.2 (Qbu a j ∧ j.1 < i.1) := ⟨(m39, (i40, xs)), rfl, Imp.refl _, Imp.refl _, ⟨e, h⟩, hl⟩
theorem en6_0 (a : List ByteArray) (h : (0 : Int) ≤ 0 ∧ (List.replicate (Int.toNat (a.length : Int)) (w13_ : ByteArray)).length = (List.replicate (Int.toNat (a.length : Int)) (w13_ : ByteArray)).length) : lE6_0 a 0 (List.replicate (Int.toNat (a.length : Int)) (w13_ : ByteArray)) 0 (List.replicate (Int.toNat (a.length : Int)) (w13_ : ByteArray)) (Qbu a (Qbn a)) := ⟨rfl, Imp.refl _, Imp.refl _, rfl, Nat.lt_succ_self _, h⟩
theorem fi6 (a : List ByteArray) (r : List ByteArray) (hF : r = (F6 a)) : (Imp (.l 1 eStr r) (.l 1 eStr (F6 a))) ∧ True := by cases hF; exact ⟨Imp.refl _, trivial⟩
def S6 (R : List ByteArray) (a : List ByteArray) : Spec := ⟨[.r (.c (.l 1 eStr a))], .ow (.l 1 eStr R), a.length ≤ 1000000000 ∧ (∀ k : Nat, (a.getD k default).size ≤ 1000000000)⟩
theorem ok6 (a : List ByteArray) : (S6 (F6 a) a).ok Tryz.prog 6 :=
 Qk mixed (fn := Tryz.f6) (ct := .seqk [(0, 0)] .no (.seq (.reg [(2, .dat (.l 1 eStr (List.replicate (Int.toNat (a.length : Int)) (w13_ : ByteArray))))]) (.seq (.seqk [(0, 0), (3, 0)] .no (.blk (.loop (ι := Nat × (Int × List ByteArray)) (fun i => (fun (i40 : Int) (xs : List ByteArray) => (⟨[(0, some (.h 0 0)), (3, some (.h 1 0)), (4, some (.v (vI i40)))], [(0, some (.shr none (.l 1 eStr a))), (1, some (.own 1 (.l 1 eStr xs)))], 2⟩ : St)) i.2.1 i.2.2) (Qbu a) (fun i => i.1) (Qbn a) (fun i => (fun (i40 : Int) (xs : List ByteArray) => (.seq (.seq .no (.cond .no .no)) (.seq (.blk (.reg [(7, .dat (.l 1 eStr (xs.set (i40).toNat (a.getD (Int.toNat i40) default))))])) (.reg [(1, .bnd)])))) i.2.1 i.2.2)))) (.seq .no .no)))) Tryz.func6 (fun (hp : a.length ≤ 1000000000 ∧ (∀ k : Nat, (a.getD k default).size ≤ 1000000000)) => have hpre0 := hp.1; have hpre1 := hp.2; kn a fun _ => ai (by first | omega | (simp only [lens, ib] at * <;> omega) : 0 ≤ (a.length : Int) ∧ (a.length : Int) ≤ (a.length : Int) ∧ (16 : Int) * (a.length : Int) ≤ 281474976710656) (ai (MakeOK.mk eStr (w13_ : ByteArray) (by exact ai ir trivial) : MakeOK 1 [.v (.string w13_)] (Int.toNat (a.length : Int)) (.l 1 eStr (List.replicate (Int.toNat (a.length : Int)) (w13_ : ByteArray)))) (kn a fun _ => kn (List.replicate (Int.toNat (a.length : Int)) (w13_ : ByteArray)) fun _ => ai (en6_0 a (by refine ⟨?_, ?_⟩ <;> first | omega | (simp only [lens, ib] at * <;> omega))) (fun (i0 : Nat × (Int × List ByteArray)) (hi0 : Qbu a i0) => (fun (m0 : Nat) (i40 : Int) (xs : List ByteArray) (hh0 : lH6_0 a i0 m0 i40 xs) => have hI0 := hh0.1; have hl0 := hh0.2.1; have _ := hh0.2.2.1; have _ := hh0.2.2.2; ifd (i40 < (a.length : Int)) (fun h2 _ => ai (by first | omega | (simp only [lens, ib] at * <;> omega) : ib i40 a) (ai (by first | omega | (simp only [lens, ib] at * <;> omega) : ib i40 xs) (ai (setr 1 eStr xs (i40).toNat (a.getD (Int.toNat i40) default)) (ai (iok (i40 + 1) (by first | omega | (simp only [lens, ib] at * <;> omega))) (bk6_0 a i0 m0 (i40 + 1) (xs.set (i40).toNat (a.getD (Int.toNat i40) default)) hl0 (Qe hI0 (condT h2 rfl)) (by refine ⟨?_, ?_, ?_⟩ <;> first | omega | (simp only [lens, ib] at * <;> omega))))))) (fun h2 _ => have hD0_3 : lX6_0 a = Lp.done (i40, xs) := Qn hI0 (condF h2 rfl); fi6 a xs (finD hD0_3 rfl))) (i0.1 - 1) i0.2.1 i0.2.2 (un6_0 a i0 hi0))))) (by kernel_rfl)
theorem as6 (a : List ByteArray) : F6 a = (a) := by
 exact Qru (fun x => x) (fun _ => rfl) a _ (by simp) (Tn a) (fun i xs => rfl)
theorem oa6 (a : List ByteArray) : (S6 (a) a).ok Tryz.prog 6 := by
 intro hp; have h := ok6 a hp; rw [as6 a] at h; exact h
def Nb (a : List ByteArray) (b : List ByteArray) : Int → Lp Int Bool := fun i40 =>
 bif (decide (i40 < (a.length : Int))) then (bif (!((a.getD (Int.toNat i40) default).toList == (b.getD (Int.toNat i40) default).toList)) then (.ret false) else (.next (i40 + 1))) else (.done i40)
def F8 (a : List ByteArray) (b : List ByteArray) : Bool :=
 bif ((a.length : Int) != (b.length : Int)) then false else ((runL (Nb a b) ((Int.toNat ((a.length : Int) - 0)) + 1) 0).fin (fun r => r) (fun i40 => true))
abbrev Qcc (a : List ByteArray) : Nat × Int := (((Int.toNat ((a.length : Int) - 0)) + 1), 0)
abbrev Qnj (a : List ByteArray) (m39 : Nat) (i40 : Int) : Prop := Int.toNat ((a.length : Int) - i40) < m39 ∧ (0 : Int) ≤ i40
abbrev lX8_0 (a : List ByteArray) (b : List ByteArray) : Lp Int Bool := LpX (Nb a b) (Qcc a)
abbrev Qcg (a : List ByteArray) (b : List ByteArray) (i : Nat × Int) : Prop := LpJ (Nb a b) (Qcc a) i (Qnj a i.1 i.2)
abbrev lH8_0 (a : List ByteArray) (b : List ByteArray) (i : Nat × Int) (m39 : Nat) (i40 : Int) : Prop := LpH (Nb a b) (Qcc a) i m39 i40 (Qnj a (m39 + 1) i40)
abbrev lE8_0 (a : List ByteArray) (b : List ByteArray) (i40 : Int) (i40_ : Int) (K39 : Prop) : Prop := ((.int .i64 i40 : Value) = .int .i64 i40_) ∧ (Im (.l 1 eStr a)) ∧ (Im (.l 1 eStr b)) ∧ K39
theorem un8_0 (a : List ByteArray) (b : List ByteArray) (i : Nat × Int) (h : Qcg a b i) : lH8_0 a b i (i.1 - 1) i.2 := ⟨hd1 h.1 h.2.1, hd3 h.2.1, hd2 h.2.1, h.2.2⟩
theorem bk8_0 (a : List ByteArray) (b : List ByteArray) (i : Nat × Int) (m39 : Nat) (i40 : Int) (hl : m39 < i.1) (e : runL (Nb a b) m39 i40 = lX8_0 a b) (h : Qnj a m39 i40) : ∃ j : Nat × Int, lE8_0 a b i40 j.2 (Qcg a b j ∧ j.1 < i.1) := ⟨(m39, i40), rfl, Imp.refl _, Imp.refl _, ⟨e, h⟩, hl⟩
theorem en8_0 (a : List ByteArray) (b : List ByteArray) (h : (0 : Int) ≤ 0) : lE8_0 a b 0 0 (Qcg a b (Qcc a)) := ⟨rfl, Imp.refl _, Imp.refl _, rfl, Nat.lt_succ_self _, h⟩
def S8 (R : Bool) (a : List ByteArray) (b : List ByteArray) : Spec := ⟨[.r (.c (.l 1 eStr a)), .r (.c (.l 1 eStr b))], .v (.bool R), True⟩
theorem ok8 (a : List ByteArray) (b : List ByteArray) : (S8 (F8 a b) a b).ok Tryz.prog 8 :=
 Qk mixed (fn := Tryz.f8) (ct := .seqk [(0, 0), (1, 0)] .no (.seq (.seq .no (.cond (.seq .no .no) .no)) (.seq (.seqk [(0, 0), (1, 0)] .no (.blk (.loop (ι := Nat × Int) (fun i => (fun (i40 : Int) => (⟨[(0, some (.h 0 0)), (1, some (.h 1 0)), (5, some (.v (vI i40)))], [(0, some (.shr none (.l 1 eStr a))), (1, some (.shr none (.l 1 eStr b)))], 2⟩ : St)) i.2) (Qcg a b) (fun i => i.1) (Qcc a) (fun i => (fun (i40 : Int) => (.seq (.seq .no (.cond .no .no)) (.seq (.blk (.seq .no (.cond (.seq .no .no) .no))) (.reg [(1, .bnd)])))) i.2)))) (.seq .no .no)))) Tryz.func8 (fun (_ : True) => kn a fun _ => kn b fun _ => ifn (a.length : Int) (b.length : Int) (fun h1 _ => fiB false (F8 a b) (condT h1 rfl)) (fun h1 _ => kn a fun _ => kn b fun _ => ai (en8_0 a b (by omega)) (fun (i0 : Nat × Int) (hi0 : Qcg a b i0) => (fun (m0 : Nat) (i40 : Int) (hh0 : lH8_0 a b i0 m0 i40) => have hI0 := hh0.1; have hl0 := hh0.2.1; have _ := hh0.2.2.1; have _ := hh0.2.2.2; ifd (i40 < (a.length : Int)) (fun h3 _ => ai (by omega : ib i40 a) (ai (by omega : ib i40 b) (ifb (!((a.getD (Int.toNat i40) default).toList == (b.getD (Int.toNat i40) default).toList)) (fun h4 => fiB false (F8 a b) (condF h1 (finR (Qz hI0 (condT h3 (condT h4 rfl))) rfl))) (fun h4 => ai (iok (i40 + 1) (by omega)) (bk8_0 a b i0 m0 (i40 + 1) hl0 (Qe hI0 (condT h3 (condF h4 rfl))) (by refine ⟨?_, ?_⟩ <;> omega)))))) (fun h3 _ => have hD0_5 : lX8_0 a b = Lp.done i40 := Qn hI0 (condF h3 rfl); fiB true (F8 a b) (condF h1 (finD hD0_5 rfl)))) (i0.1 - 1) i0.2 (un8_0 a b i0 hi0)))) (by kernel_rfl)
theorem as8 (a : List ByteArray) (b : List ByteArray) : F8 a b = (decide (a = b)) := by
 exact Qqi (fun x y => decide (x = y)) (fun _ _ => rfl) a b (Nb a b) (fun i => by simp only [Nb, neI, neB, neS])
theorem oa8 (a : List ByteArray) (b : List ByteArray) : (S8 (decide (a = b)) a b).ok Tryz.prog 8 := by
 intro hp; have h := ok8 a b hp; rw [as8 a b] at h; exact h
theorem kc4 (a : List ByteArray) (left' : Int) {K_ : Prop} (p0_ : 0 ≤ left') (p1_ : left' ≤ 1048576) (p2_ : ∀ k : Nat, (a.getD k default).size ≤ 9223372036854775807) (k_ : (0 ≤ left' → left' ≤ 1048576 → 0 ≤ (F4 a left') → (F4 a left') ≤ left') → (0 ≤ left' → left' ≤ 1048576 → 0 ≤ (F4 a left') → a.length ≤ 1000000000) → (0 ≤ left' → left' ≤ 1048576 → 0 ≤ (F4 a left') → ∀ k : Nat, (a.getD k default).size ≤ 1000000000) → K_) : (0 ≤ left' ∧ left' ≤ 1048576 ∧ (∀ k : Nat, (a.getD k default).size ≤ 9223372036854775807)) ∧ (Imp (.l 1 eStr a) (.l 1 eStr a)) ∧ (Imp (.v (vI left')) (.v (vI left'))) ∧ K_ := ⟨⟨p0_, p1_, p2_⟩, Imp.refl _, Imp.refl _, k_ (g4_0 a left') (g4_1 a left') (g4_2 a left')⟩
theorem kc6a (a : List ByteArray) {K_ : Prop} (p0_ : a.length ≤ 1000000000) (p1_ : ∀ k : Nat, (a.getD k default).size ≤ 1000000000) (k_ : K_) : (a.length ≤ 1000000000 ∧ (∀ k : Nat, (a.getD k default).size ≤ 1000000000)) ∧ (Imp (.l 1 eStr a) (.l 1 eStr a)) ∧ K_ := ⟨⟨p0_, p1_⟩, Imp.refl _, k_⟩
theorem kc5 (a : List ByteArray) (b : List ByteArray) {K_ : Prop} (p0_ : a.length ≤ 1048576) (p1_ : b.length ≤ 1048576) (p2_ : ∀ k : Nat, (a.getD k default).size ≤ 1048576) (p3_ : ∀ k : Nat, (b.getD k default).size ≤ 1048576) (k_ : K_) : (a.length ≤ 1048576 ∧ b.length ≤ 1048576 ∧ (∀ k : Nat, (a.getD k default).size ≤ 1048576) ∧ (∀ k : Nat, (b.getD k default).size ≤ 1048576)) ∧ (Imp (.l 1 eStr a) (.l 1 eStr a)) ∧ (Imp (.l 1 eStr b) (.l 1 eStr b)) ∧ K_ := ⟨⟨p0_, p1_, p2_, p3_⟩, Imp.refl _, Imp.refl _, k_⟩
theorem kc7 (a : List ByteArray) (b : List ByteArray) {K_ : Prop} (p0_ : a.length ≤ 1048576) (p1_ : b.length ≤ 1048576) (p2_ : ∀ k : Nat, (a.getD k default).size ≤ 1048576) (p3_ : ∀ k : Nat, (b.getD k default).size ≤ 1048576) (k_ : K_) : (a.length ≤ 1048576 ∧ b.length ≤ 1048576 ∧ (∀ k : Nat, (a.getD k default).size ≤ 1048576) ∧ (∀ k : Nat, (b.getD k default).size ≤ 1048576)) ∧ (Imp (.l 1 eStr a) (.l 1 eStr a)) ∧ (Imp (.l 1 eStr b) (.l 1 eStr b)) ∧ K_ := ⟨⟨p0_, p1_, p2_, p3_⟩, Imp.refl _, Imp.refl _, k_⟩
abbrev kh4f (a : List ByteArray) (left' : Int) : Hint false Tryz.prog := .call 4 (S4 a left') ((ok4 a left').to false) none
abbrev Hq (a : List ByteArray) : Hint false Tryz.prog := .call 6 (S6 a a) ((oa6 a).to false) none
abbrev kh5f (a : List ByteArray) (b : List ByteArray) : Hint false Tryz.prog := .call 5 (S5 a b) ((ok5 a b).to false) none
abbrev kh7 (a : List ByteArray) (b : List ByteArray) : Hint false Tryz.prog := .call 7 (S7 a b) (ok7 a b) none
theorem kc8a (a : List ByteArray) (b : List ByteArray) {K_ : Prop} (k_ : K_) : (True) ∧ (Imp (.l 1 eStr a) (.l 1 eStr a)) ∧ (Imp (.l 1 eStr b) (.l 1 eStr b)) ∧ K_ := ⟨trivial, Imp.refl _, Imp.refl _, k_⟩
abbrev Qbl (a : List ByteArray) (b : List ByteArray) : Hint false Tryz.prog := .call 8 (S8 (decide (a = b)) a b) ((oa8 a b).to false) none
theorem kc9 (a : List ByteArray) (k : Int) {K_ : Prop} (p0_ : 0 ≤ k) (p1_ : k + (a.length : Int) ≤ 1000000000) (k_ : ((F9 a k).1 = k + (a.length : Int)) → ((F9 a k).2.length = a.length) → K_) : (0 ≤ k ∧ k + (a.length : Int) ≤ 1000000000) ∧ (Imp (.l 1 eStr a) (.l 1 eStr a)) ∧ (Imp (.v (vI k)) (.v (vI k))) ∧ K_ := ⟨⟨p0_, p1_⟩, Imp.refl _, Imp.refl _, k_ (Md a k) (g9_0 a k)⟩
abbrev kh9f (a : List ByteArray) (k : Int) : Hint false Tryz.prog := .call 9 (S9 a k) ((ok9 a k).to false) none
theorem kg8a {K_ : Prop} (c_ b_ : Bool) (a : List ByteArray) (b : List ByteArray) (k_ : K_) : (c_ = b_ → True) ∧ (c_ = b_ → Imp (.l 1 eStr a) (.l 1 eStr a)) ∧ (c_ = b_ → Imp (.l 1 eStr b) (.l 1 eStr b)) ∧ K_ := ⟨fun _ => trivial, fun _ => Imp.refl _, fun _ => Imp.refl _, k_⟩
theorem kc10 (a : List ByteArray) (k : Int) {K_ : Prop} (p0_ : 0 ≤ k) (p1_ : k + (a.length : Int) ≤ 1000000000) (k_ : K_) : (0 ≤ k ∧ k + (a.length : Int) ≤ 1000000000) ∧ (Imp (.l 1 eStr a) (.l 1 eStr a)) ∧ (Imp (.v (vI k)) (.v (vI k))) ∧ K_ := ⟨⟨p0_, p1_⟩, Imp.refl _, Imp.refl _, k_⟩
abbrev kh10f (a : List ByteArray) (k : Int) : Hint false Tryz.prog := .call 10 (S10 a k) ((ok10 a k).to false) none
def F3 (aA : List ByteArray) (aB : List ByteArray) : Bool :=
 bif (decide ((F4 aA 1048576) < 0)) then true else (bif (decide ((F4 aB (F4 aA 1048576)) < 0)) then true else (bif (!(decide ((F7 aA aB) = (F5 aA aB)))) then false else (bif (!(decide (aA = aA))) then false else (bif (!(decide (aB = aB))) then false else (bif (bif decide ((F9 aB ((F9 aA 1).1)).1 < 0) then true else (!(decide ((F7 aA aB) = (F5 aA aB))))) then false else (bif (decide ((F10 ((F9 (F7 aA aB) 1).2) 1) < 0)) then false else (bif ((F10 ((F9 (F7 aA aB) 1).2) 1) != (F9 (F7 aA aB) 1).1) then false else (bif (!(decide ((F7 aA aB) = (F5 aA aB)))) then false else (bif (decide ((F10 ((F9 (F7 aA aB) 1).2) 1) < 0)) then false else (bif ((F10 ((F9 (F7 aA aB) 1).2) 1) != (F9 (F7 aA aB) 1).1) then false else true))))))))))
def S3 (aA : List ByteArray) (aB : List ByteArray) : Spec := ⟨[.r (.c (.l 1 eStr aA)), .r (.c (.l 1 eStr aB))], .v (.bool (F3 aA aB)), (∀ k : Nat, (aA.getD k default).size ≤ 9223372036854775807) ∧ (∀ k : Nat, (aB.getD k default).size ≤ 9223372036854775807)⟩
theorem ok3 (aA : List ByteArray) (aB : List ByteArray) : (S3 aA aB).ok Tryz.prog 3 false :=
 Qk mixed (fn := Tryz.f3) (ct := .seqk [(0, 0), (1, 0)] .no (.seq .no (.seq (.reg [(2, kh4f aA 1048576)]) (.seq (.seq .no (.cond (.seq .no .no) .no)) (.seq (.reg [(2, kh4f aB (F4 aA 1048576))]) (.seq (.seq .no (.cond (.seq .no .no) .no)) (.seq (.reg [(1, Hq aA), (3, Hq aB), (4, kh5f aA aB)]) (.seq (.reg [(1, Hq aA)]) (.seq (.reg [(1, Hq aB)]) (.seq (.reg [(2, kh7 aA aB)]) (.seq (.seq (.reg [(2, Qbl (F7 aA aB) (F5 aA aB))]) (.cond (.seq .no .no) .no)) (.seq (.seq (.reg [(2, Hq aA), (3, Qbl aA aA)]) (.cond (.seq .no .no) .no)) (.seq (.seq (.reg [(2, Hq aB), (3, Qbl aB aB)]) (.cond (.seq .no .no) .no)) (.seq .no (.seq (.reg [(2, kh9f aA 1)]) (.seq (.reg [(2, kh9f aB ((F9 aA 1).1))]) (.seq (.seq (.reg [(5, Qbl (F7 aA aB) (F5 aA aB))]) (.cond (.seq .no .no) .no)) (.seq .no (.seq (.reg [(2, kh9f (F7 aA aB) 1)]) (.seq .no (.seq (.reg [(2, kh10f ((F9 (F7 aA aB) 1).2) 1)]) (.seq (.seq .no (.cond (.seq .no .no) .no)) (.seq (.seq .no (.cond (.seq .no .no) .no)) (.seq (.reg [(1, Hq aA), (3, Hq aB), (4, kh7 aA aB)]) (.seq (.seq (.reg [(2, Qbl (F7 aA aB) (F5 aA aB))]) (.cond (.seq .no .no) .no)) (.seq .no (.seq (.reg [(2, kh10f ((F9 (F7 aA aB) 1).2) 1)]) (.seq (.seq .no (.cond (.seq .no .no) .no)) (.seq (.seq .no (.cond (.seq .no .no) .no)) (.seq .no .no)))))))))))))))))))))))))))))) Tryz.func3 (fun (hp : (∀ k : Nat, (aA.getD k default).size ≤ 9223372036854775807) ∧ (∀ k : Nat, (aB.getD k default).size ≤ 9223372036854775807)) => have hpre0 := hp.1; have hpre1 := hp.2; kn aA fun _ => kn aB fun _ => kc4 aA 1048576 (by first | omega | assumption | exact Int.le_trans (Qq aA 1048576 (by omega)) (by decide) | exact Qo aA (l := 1048576) (by omega) (by omega) | exact Qs aA (l := 1048576) (by omega) (by omega) | exact Qo aB (l := F4 aA 1048576) (by omega) (Int.le_trans (Qq aA 1048576 (by omega)) (by decide)) | exact Qs aB (l := F4 aA 1048576) (by omega) (Int.le_trans (Qq aA 1048576 (by omega)) (by decide))) (by first | omega | assumption | exact Int.le_trans (Qq aA 1048576 (by omega)) (by decide) | exact Qo aA (l := 1048576) (by omega) (by omega) | exact Qs aA (l := 1048576) (by omega) (by omega) | exact Qo aB (l := F4 aA 1048576) (by omega) (Int.le_trans (Qq aA 1048576 (by omega)) (by decide)) | exact Qs aB (l := F4 aA 1048576) (by omega) (Int.le_trans (Qq aA 1048576 (by omega)) (by decide))) (by first | omega | assumption | exact Int.le_trans (Qq aA 1048576 (by omega)) (by decide) | exact Qo aA (l := 1048576) (by omega) (by omega) | exact Qs aA (l := 1048576) (by omega) (by omega) | exact Qo aB (l := F4 aA 1048576) (by omega) (Int.le_trans (Qq aA 1048576 (by omega)) (by decide)) | exact Qs aB (l := F4 aA 1048576) (by omega) (Int.le_trans (Qq aA 1048576 (by omega)) (by decide))) (fun gv1 gv2 gv3 => ifd ((F4 aA 1048576) < 0) (fun h4 _ => fiB true (F3 aA aB) (condT h4 rfl)) (fun h4 _ => kc4 aB (F4 aA 1048576) (by first | omega | assumption | exact Int.le_trans (Qq aA 1048576 (by omega)) (by decide) | exact Qo aA (l := 1048576) (by omega) (by omega) | exact Qs aA (l := 1048576) (by omega) (by omega) | exact Qo aB (l := F4 aA 1048576) (by omega) (Int.le_trans (Qq aA 1048576 (by omega)) (by decide)) | exact Qs aB (l := F4 aA 1048576) (by omega) (Int.le_trans (Qq aA 1048576 (by omega)) (by decide))) (by first | omega | assumption | exact Int.le_trans (Qq aA 1048576 (by omega)) (by decide) | exact Qo aA (l := 1048576) (by omega) (by omega) | exact Qs aA (l := 1048576) (by omega) (by omega) | exact Qo aB (l := F4 aA 1048576) (by omega) (Int.le_trans (Qq aA 1048576 (by omega)) (by decide)) | exact Qs aB (l := F4 aA 1048576) (by omega) (Int.le_trans (Qq aA 1048576 (by omega)) (by decide))) (by first | omega | assumption | exact Int.le_trans (Qq aA 1048576 (by omega)) (by decide) | exact Qo aA (l := 1048576) (by omega) (by omega) | exact Qs aA (l := 1048576) (by omega) (by omega) | exact Qo aB (l := F4 aA 1048576) (by omega) (Int.le_trans (Qq aA 1048576 (by omega)) (by decide)) | exact Qs aB (l := F4 aA 1048576) (by omega) (Int.le_trans (Qq aA 1048576 (by omega)) (by decide))) (fun gv5 gv6 gv7 => ifd ((F4 aB (F4 aA 1048576)) < 0) (fun h8 _ => fiB true (F3 aA aB) (condF h4 (condT h8 rfl))) (fun h8 _ => kc6a aA (by omega) (by first | assumption | exact hpre0 _ | exact fun k _ => hpre0 k | exact hpre1 _ | exact fun k _ => hpre1 k | exact gv3 (by omega) (by omega) (by omega) | exact gv7 (by omega) (by omega) (by omega) | (intros; exact trivial) | (intros; exact Nat.zero_le _)) (kc6a aB (by omega) (by first | assumption | exact hpre0 _ | exact fun k _ => hpre0 k | exact hpre1 _ | exact fun k _ => hpre1 k | exact gv3 (by omega) (by omega) (by omega) | exact gv7 (by omega) (by omega) (by omega) | (intros; exact trivial) | (intros; exact Nat.zero_le _)) (kc5 aA aB (by first | omega | assumption | exact Int.le_trans (Qq aA 1048576 (by omega)) (by decide) | exact Qo aA (l := 1048576) (by omega) (by omega) | exact Qs aA (l := 1048576) (by omega) (by omega) | exact Qo aB (l := F4 aA 1048576) (by omega) (Int.le_trans (Qq aA 1048576 (by omega)) (by decide)) | exact Qs aB (l := F4 aA 1048576) (by omega) (Int.le_trans (Qq aA 1048576 (by omega)) (by decide))) (by first | omega | assumption | exact Int.le_trans (Qq aA 1048576 (by omega)) (by decide) | exact Qo aA (l := 1048576) (by omega) (by omega) | exact Qs aA (l := 1048576) (by omega) (by omega) | exact Qo aB (l := F4 aA 1048576) (by omega) (Int.le_trans (Qq aA 1048576 (by omega)) (by decide)) | exact Qs aB (l := F4 aA 1048576) (by omega) (Int.le_trans (Qq aA 1048576 (by omega)) (by decide))) (by first | omega | assumption | exact Int.le_trans (Qq aA 1048576 (by omega)) (by decide) | exact Qo aA (l := 1048576) (by omega) (by omega) | exact Qs aA (l := 1048576) (by omega) (by omega) | exact Qo aB (l := F4 aA 1048576) (by omega) (Int.le_trans (Qq aA 1048576 (by omega)) (by decide)) | exact Qs aB (l := F4 aA 1048576) (by omega) (Int.le_trans (Qq aA 1048576 (by omega)) (by decide))) (by first | omega | assumption | exact Int.le_trans (Qq aA 1048576 (by omega)) (by decide) | exact Qo aA (l := 1048576) (by omega) (by omega) | exact Qs aA (l := 1048576) (by omega) (by omega) | exact Qo aB (l := F4 aA 1048576) (by omega) (Int.le_trans (Qq aA 1048576 (by omega)) (by decide)) | exact Qs aB (l := F4 aA 1048576) (by omega) (Int.le_trans (Qq aA 1048576 (by omega)) (by decide))) (kc6a aA (by omega) (by first | assumption | exact hpre0 _ | exact fun k _ => hpre0 k | exact hpre1 _ | exact fun k _ => hpre1 k | exact gv3 (by omega) (by omega) (by omega) | exact gv7 (by omega) (by omega) (by omega) | (intros; exact trivial) | (intros; exact Nat.zero_le _)) (kc6a aB (by omega) (by first | assumption | exact hpre0 _ | exact fun k _ => hpre0 k | exact hpre1 _ | exact fun k _ => hpre1 k | exact gv3 (by omega) (by omega) (by omega) | exact gv7 (by omega) (by omega) (by omega) | (intros; exact trivial) | (intros; exact Nat.zero_le _)) (kc7 aA aB (by first | omega | assumption | exact Int.le_trans (Qq aA 1048576 (by omega)) (by decide) | exact Qo aA (l := 1048576) (by omega) (by omega) | exact Qs aA (l := 1048576) (by omega) (by omega) | exact Qo aB (l := F4 aA 1048576) (by omega) (Int.le_trans (Qq aA 1048576 (by omega)) (by decide)) | exact Qs aB (l := F4 aA 1048576) (by omega) (Int.le_trans (Qq aA 1048576 (by omega)) (by decide))) (by first | omega | assumption | exact Int.le_trans (Qq aA 1048576 (by omega)) (by decide) | exact Qo aA (l := 1048576) (by omega) (by omega) | exact Qs aA (l := 1048576) (by omega) (by omega) | exact Qo aB (l := F4 aA 1048576) (by omega) (Int.le_trans (Qq aA 1048576 (by omega)) (by decide)) | exact Qs aB (l := F4 aA 1048576) (by omega) (Int.le_trans (Qq aA 1048576 (by omega)) (by decide))) (by first | omega | assumption | exact Int.le_trans (Qq aA 1048576 (by omega)) (by decide) | exact Qo aA (l := 1048576) (by omega) (by omega) | exact Qs aA (l := 1048576) (by omega) (by omega) | exact Qo aB (l := F4 aA 1048576) (by omega) (Int.le_trans (Qq aA 1048576 (by omega)) (by decide)) | exact Qs aB (l := F4 aA 1048576) (by omega) (Int.le_trans (Qq aA 1048576 (by omega)) (by decide))) (by first | omega | assumption | exact Int.le_trans (Qq aA 1048576 (by omega)) (by decide) | exact Qo aA (l := 1048576) (by omega) (by omega) | exact Qs aA (l := 1048576) (by omega) (by omega) | exact Qo aB (l := F4 aA 1048576) (by omega) (Int.le_trans (Qq aA 1048576 (by omega)) (by decide)) | exact Qs aB (l := F4 aA 1048576) (by omega) (Int.le_trans (Qq aA 1048576 (by omega)) (by decide))) (kc8a (F7 aA aB) (F5 aA aB) (ifb (!(decide ((F7 aA aB) = (F5 aA aB)))) (fun h9 => have _ := of_decide_eq_false (Zx h9); fiB false (F3 aA aB) (condF h4 (condF h8 (condT h9 rfl)))) (fun h9 => have _ := of_decide_eq_true (Uq h9); kc6a aA (by omega) (by first | assumption | exact hpre0 _ | exact fun k _ => hpre0 k | exact hpre1 _ | exact fun k _ => hpre1 k | exact gv3 (by omega) (by omega) (by omega) | exact gv7 (by omega) (by omega) (by omega) | (intros; exact trivial) | (intros; exact Nat.zero_le _)) (kc8a aA aA (ifb (!(decide (aA = aA))) (fun h10 => have _ := of_decide_eq_false (Zx h10); fiB false (F3 aA aB) (condF h4 (condF h8 (condF h9 (condT h10 rfl))))) (fun h10 => have _ := of_decide_eq_true (Uq h10); kc6a aB (by omega) (by first | assumption | exact hpre0 _ | exact fun k _ => hpre0 k | exact hpre1 _ | exact fun k _ => hpre1 k | exact gv3 (by omega) (by omega) (by omega) | exact gv7 (by omega) (by omega) (by omega) | (intros; exact trivial) | (intros; exact Nat.zero_le _)) (kc8a aB aB (ifb (!(decide (aB = aB))) (fun h11 => have _ := of_decide_eq_false (Zx h11); fiB false (F3 aA aB) (condF h4 (condF h8 (condF h9 (condF h10 (condT h11 rfl)))))) (fun h11 => have _ := of_decide_eq_true (Uq h11); kc9 aA 1 (by first | omega | (have ha := Qo aA (l := 1048576) (by omega) (by omega); have hb := Qo aB (l := F4 aA 1048576) (by omega) (Int.le_trans (Qq aA 1048576 (by omega)) (by decide)); have hd := Ym aA aB ha hb; have hs := Uv aA aB ha hb; omega)) (by first | omega | (have ha := Qo aA (l := 1048576) (by omega) (by omega); have hb := Qo aB (l := F4 aA 1048576) (by omega) (Int.le_trans (Qq aA 1048576 (by omega)) (by decide)); have hd := Ym aA aB ha hb; have hs := Uv aA aB ha hb; omega)) (fun gv12 gv13 => kc9 aB ((F9 aA 1).1) (by first | omega | (have ha := Qo aA (l := 1048576) (by omega) (by omega); have hb := Qo aB (l := F4 aA 1048576) (by omega) (Int.le_trans (Qq aA 1048576 (by omega)) (by decide)); have hd := Ym aA aB ha hb; have hs := Uv aA aB ha hb; omega)) (by first | omega | (have ha := Qo aA (l := 1048576) (by omega) (by omega); have hb := Qo aB (l := F4 aA 1048576) (by omega) (Int.le_trans (Qq aA 1048576 (by omega)) (by decide)); have hd := Ym aA aB ha hb; have hs := Uv aA aB ha hb; omega)) (fun gv14 gv15 => kg8a (decide ((F9 aB ((F9 aA 1).1)).1 < 0)) false (F7 aA aB) (F5 aA aB) (ifb (bif decide ((F9 aB ((F9 aA 1).1)).1 < 0) then true else (!(decide ((F7 aA aB) = (F5 aA aB))))) (fun h17 => fiB false (F3 aA aB) (condF h4 (condF h8 (condF h9 (condF h10 (condF h11 (condT h17 rfl))))))) (fun h17 => have _ := of_decide_eq_false (orF1 h17); have _ := of_decide_eq_true (Uq (orF2 h17)); kc9 (F7 aA aB) 1 (by first | omega | (have ha := Qo aA (l := 1048576) (by omega) (by omega); have hb := Qo aB (l := F4 aA 1048576) (by omega) (Int.le_trans (Qq aA 1048576 (by omega)) (by decide)); have hd := Ym aA aB ha hb; have hs := Uv aA aB ha hb; omega)) (by first | omega | (have ha := Qo aA (l := 1048576) (by omega) (by omega); have hb := Qo aB (l := F4 aA 1048576) (by omega) (Int.le_trans (Qq aA 1048576 (by omega)) (by decide)); have hd := Ym aA aB ha hb; have hs := Uv aA aB ha hb; omega)) (fun gv18 gv19 => kc10 ((F9 (F7 aA aB) 1).2) 1 (by first | omega | (have ha := Qo aA (l := 1048576) (by omega) (by omega); have hb := Qo aB (l := F4 aA 1048576) (by omega) (Int.le_trans (Qq aA 1048576 (by omega)) (by decide)); have hd := Ym aA aB ha hb; have hs := Uv aA aB ha hb; omega)) (by first | omega | (have ha := Qo aA (l := 1048576) (by omega) (by omega); have hb := Qo aB (l := F4 aA 1048576) (by omega) (Int.le_trans (Qq aA 1048576 (by omega)) (by decide)); have hd := Ym aA aB ha hb; have hs := Uv aA aB ha hb; omega)) (ifd ((F10 ((F9 (F7 aA aB) 1).2) 1) < 0) (fun h20 _ => fiB false (F3 aA aB) (condF h4 (condF h8 (condF h9 (condF h10 (condF h11 (condF h17 (condT h20 rfl)))))))) (fun h20 _ => ifn (F10 ((F9 (F7 aA aB) 1).2) 1) ((F9 (F7 aA aB) 1).1) (fun h21 _ => fiB false (F3 aA aB) (condF h4 (condF h8 (condF h9 (condF h10 (condF h11 (condF h17 (condF h20 (condT h21 rfl))))))))) (fun h21 _ => kc6a aA (by omega) (by first | assumption | exact hpre0 _ | exact fun k _ => hpre0 k | exact hpre1 _ | exact fun k _ => hpre1 k | exact gv3 (by omega) (by omega) (by omega) | exact gv7 (by omega) (by omega) (by omega) | (intros; exact trivial) | (intros; exact Nat.zero_le _)) (kc6a aB (by omega) (by first | assumption | exact hpre0 _ | exact fun k _ => hpre0 k | exact hpre1 _ | exact fun k _ => hpre1 k | exact gv3 (by omega) (by omega) (by omega) | exact gv7 (by omega) (by omega) (by omega) | (intros; exact trivial) | (intros; exact Nat.zero_le _)) (kc7 aA aB (by first | omega | assumption | exact Int.le_trans (Qq aA 1048576 (by omega)) (by decide) | exact Qo aA (l := 1048576) (by omega) (by omega) | exact Qs aA (l := 1048576) (by omega) (by omega) | exact Qo aB (l := F4 aA 1048576) (by omega) (Int.le_trans (Qq aA 1048576 (by omega)) (by decide)) | exact Qs aB (l := F4 aA 1048576) (by omega) (Int.le_trans (Qq aA 1048576 (by omega)) (by decide))) (by first | omega | assumption | exact Int.le_trans (Qq aA 1048576 (by omega)) (by decide) | exact Qo aA (l := 1048576) (by omega) (by omega) | exact Qs aA (l := 1048576) (by omega) (by omega) | exact Qo aB (l := F4 aA 1048576) (by omega) (Int.le_trans (Qq aA 1048576 (by omega)) (by decide)) | exact Qs aB (l := F4 aA 1048576) (by omega) (Int.le_trans (Qq aA 1048576 (by omega)) (by decide))) (by first | omega | assumption | exact Int.le_trans (Qq aA 1048576 (by omega)) (by decide) | exact Qo aA (l := 1048576) (by omega) (by omega) | exact Qs aA (l := 1048576) (by omega) (by omega) | exact Qo aB (l := F4 aA 1048576) (by omega) (Int.le_trans (Qq aA 1048576 (by omega)) (by decide)) | exact Qs aB (l := F4 aA 1048576) (by omega) (Int.le_trans (Qq aA 1048576 (by omega)) (by decide))) (by first | omega | assumption | exact Int.le_trans (Qq aA 1048576 (by omega)) (by decide) | exact Qo aA (l := 1048576) (by omega) (by omega) | exact Qs aA (l := 1048576) (by omega) (by omega) | exact Qo aB (l := F4 aA 1048576) (by omega) (Int.le_trans (Qq aA 1048576 (by omega)) (by decide)) | exact Qs aB (l := F4 aA 1048576) (by omega) (Int.le_trans (Qq aA 1048576 (by omega)) (by decide))) (kc8a (F7 aA aB) (F5 aA aB) (ifb (!(decide ((F7 aA aB) = (F5 aA aB)))) (fun h22 => have _ := of_decide_eq_false (Zx h22); fiB false (F3 aA aB) (condF h4 (condF h8 (condF h9 (condF h10 (condF h11 (condF h17 (condF h20 (condF h21 (condT h22 rfl)))))))))) (fun h22 => have _ := of_decide_eq_true (Uq h22); kc10 ((F9 (F7 aA aB) 1).2) 1 (by first | omega | (have ha := Qo aA (l := 1048576) (by omega) (by omega); have hb := Qo aB (l := F4 aA 1048576) (by omega) (Int.le_trans (Qq aA 1048576 (by omega)) (by decide)); have hd := Ym aA aB ha hb; have hs := Uv aA aB ha hb; omega)) (by first | omega | (have ha := Qo aA (l := 1048576) (by omega) (by omega); have hb := Qo aB (l := F4 aA 1048576) (by omega) (Int.le_trans (Qq aA 1048576 (by omega)) (by decide)); have hd := Ym aA aB ha hb; have hs := Uv aA aB ha hb; omega)) (ifd ((F10 ((F9 (F7 aA aB) 1).2) 1) < 0) (fun h23 _ => fiB false (F3 aA aB) (condF h4 (condF h8 (condF h9 (condF h10 (condF h11 (condF h17 (condF h20 (condF h21 (condF h22 (condT h23 rfl))))))))))) (fun h23 _ => ifn (F10 ((F9 (F7 aA aB) 1).2) 1) ((F9 (F7 aA aB) 1).1) (fun h24 _ => fiB false (F3 aA aB) (condF h4 (condF h8 (condF h9 (condF h10 (condF h11 (condF h17 (condF h20 (condF h21 (condF h22 (condF h23 (condT h24 rfl)))))))))))) (fun h24 _ => fiB true (F3 aA aB) (condF h4 (condF h8 (condF h9 (condF h10 (condF h11 (condF h17 (condF h20 (condF h21 (condF h22 (condF h23 (condF h24 rfl)))))))))))))))))))))))))))))))))))))))))))))) (by kernel_rfl)
theorem Qqu (a b : List ByteArray) : F3 a b = true := by
 unfold F3
 cases h1 : decide (F4 a 1048576 < 0) with
 | true => rfl
 | false =>
 rw [cond_false]
 cases h2 : decide (F4 b (F4 a 1048576) < 0) with
 | true => rfl
 | false =>
 have h1 := of_decide_eq_false h1
 have h2 := of_decide_eq_false h2
 have la := Qo a (l := 1048576) (by omega) (by omega)
 have lb := Qo b (l := F4 a 1048576) (by omega) (Int.le_trans (Qq a 1048576 (by omega)) (by decide))
 have hd := Uv a b la lb
 rw [Tk, cond_false]
 generalize F5 a b = w at hd
 obtain ⟨m1, m2⟩ := marked w hd
 rw [m1, m2, Md, Md, decide_eq_false (show ¬ 1 + (a.length : Int) + (b.length : Int) < 0 by omega), decide_eq_false (show ¬ 1 + (w.length : Int) < 0 by omega)]
 simp
end Go.Proofs.YtmoodkjkecjeaacGreatDoor
namespace Go.Proofs.YtmoodkjkecjeaacGreatDoor
open Go Go.RowKit Go.ChangeShapes Go.WideShapes Go.ChangeAt
set_option maxRecDepth 100000
set_option linter.unusedVariables false
theorem op_9 : OpD Tryz.prog 9 eStr := OpD.str Tryz.underlying9
theorem op_22 : OpD Tryz.prog 22 (fun xs : List ByteArray => [.l 1 eStr xs]) := OpD.slice 1 Tryz.underlying22 op_9 (fun _ => rfl) (by kernel_rfl) (by decide)
def Qnq (s : ByteArray) : List Dat := [.x (BX s 9223372036854775807)]
theorem Qrq : OpD Tryz.prog 9 Qnq := fun H e W f cs y h => by
 obtain ⟨s, rfl, _, hs⟩ := DataW.trod_string Tryz.underlying9 h
 exact ⟨s, _, _, rfl, ⟨rfl, hs⟩, rfl⟩
theorem Qhh {S : Nat → Prop} {W : World} {xs : List ByteArray} {v : Value} (h : RdV S W (.l 1 Qnq xs) v) : RdV S W (.l 1 eStr xs) v ∧ ∀ k : Nat, (xs.getD k default).size ≤ 9223372036854775807 := by
 obtain ⟨a, c, e, h1, h2, h3⟩ := h
 refine ⟨⟨a, c, e, h1, h2, fun i x hx => ?_⟩, fun k => ?_⟩
 ·obtain ⟨k1, k2, cs, k3, k4, k5⟩ := h3 i x hx
  obtain ⟨u, us, rfl, ⟨k6, k7⟩, k8⟩ := k5
  exact ⟨k1, k2, _, k3, k4, u, us, rfl, ⟨k6, rfl⟩, k8⟩
 ·rw [List.getD_eq_getElem?_getD]
  cases hx : xs[k]? with
  | none => exact Nat.zero_le _
  | some x =>
   obtain ⟨k1, k2, cs, k3, k4, k5⟩ := h3 k x hx
   obtain ⟨u, us, rfl, ⟨k6, k7⟩, k8⟩ := k5
   exact k7
theorem Qmo : OpD Tryz.prog 22 (fun xs : List ByteArray => [.l 1 Qnq xs]) := OpD.slice 1 Tryz.underlying22 Qrq (fun _ => rfl) (by kernel_rfl) (by decide)
theorem own : ownKnob Tryz.prog.godebug = none := by kernel_rfl
theorem cfA : Tryz.prog.inPlace 3 = Rows.fnExactConfDiffRow.inPlace := by kernel_rfl
theorem cfB : Tryz.prog.unfollowed 3 = Rows.fnExactConfDiffRow.unfollowed := by kernel_rfl
theorem cfC : Tryz.prog.recurses 3 = Rows.fnExactConfDiffRow.recurses := by kernel_rfl
theorem cfD : Tryz.prog.varsNamed 3 = Rows.fnExactConfDiffRow.named := by kernel_rfl
set_option maxRecDepth 100000 in
def putC (cs : Array Value) : Obj → Obj
 | .cells _ t fz => .cells cs t fz
 | o => o
noncomputable def Gy (os : Os) : World :=
 let w := World.holding Tryz.prog os ⟨#[.cells #[.string ⟨#[118, 97, 108, 117, 101, 32, 111, 117, 116, 32, 111, 102, 32, 114, 97, 110, 103, 101]⟩] 143, .cells #[.string ⟨#[105, 110, 118, 97, 108, 105, 100, 32, 115, 121, 110, 116, 97, 120]⟩] 143], #[], []⟩
 { w with heap := (((((((w.heap.modify ((Tryz.prog.globalNamed "math/bits.deBruijn32tab").getD 0) (putC #[(.int .u8 0), (.int .u8 1), (.int .u8 28), (.int .u8 2), (.int .u8 29), (.int .u8 14), (.int .u8 24), (.int .u8 3), (.int .u8 30), (.int .u8 22), (.int .u8 20), (.int .u8 15), (.int .u8 25), (.int .u8 17), (.int .u8 4), (.int .u8 8), (.int .u8 31), (.int .u8 27), (.int .u8 13), (.int .u8 23), (.int .u8 21), (.int .u8 19), (.int .u8 16), (.int .u8 7), (.int .u8 26), (.int .u8 12), (.int .u8 18), (.int .u8 6), (.int .u8 11), (.int .u8 5), (.int .u8 10), (.int .u8 9)])).modify ((Tryz.prog.globalNamed "math/bits.deBruijn64tab").getD 0) (putC #[(.int .u8 0), (.int .u8 1), (.int .u8 56), (.int .u8 2), (.int .u8 57), (.int .u8 49), (.int .u8 28), (.int .u8 3), (.int .u8 61), (.int .u8 58), (.int .u8 42), (.int .u8 50), (.int .u8 38), (.int .u8 29), (.int .u8 17), (.int .u8 4), (.int .u8 62), (.int .u8 47), (.int .u8 59), (.int .u8 36), (.int .u8 45), (.int .u8 43), (.int .u8 51), (.int .u8 22), (.int .u8 53), (.int .u8 39), (.int .u8 33), (.int .u8 30), (.int .u8 24), (.int .u8 18), (.int .u8 12), (.int .u8 5), (.int .u8 63), (.int .u8 55), (.int .u8 48), (.int .u8 27), (.int .u8 60), (.int .u8 41), (.int .u8 37), (.int .u8 16), (.int .u8 46), (.int .u8 35), (.int .u8 44), (.int .u8 21), (.int .u8 52), (.int .u8 32), (.int .u8 23), (.int .u8 11), (.int .u8 54), (.int .u8 26), (.int .u8 40), (.int .u8 15), (.int .u8 34), (.int .u8 20), (.int .u8 31), (.int .u8 10), (.int .u8 25), (.int .u8 14), (.int .u8 19), (.int .u8 9), (.int .u8 13), (.int .u8 8), (.int .u8 7), (.int .u8 6)])).modify ((Tryz.prog.globalNamed "internal/strconv.uint64pow10").getD 0) (putC #[(.int .u64 1), (.int .u64 10), (.int .u64 100), (.int .u64 1000), (.int .u64 10000), (.int .u64 100000), (.int .u64 1000000), (.int .u64 10000000), (.int .u64 100000000), (.int .u64 1000000000), (.int .u64 10000000000), (.int .u64 100000000000), (.int .u64 1000000000000), (.int .u64 10000000000000), (.int .u64 100000000000000), (.int .u64 1000000000000000), (.int .u64 10000000000000000), (.int .u64 100000000000000000), (.int .u64 1000000000000000000), (.int .u64 10000000000000000000)])).modify ((Tryz.prog.globalNamed "unicode/utf8.acceptRanges").getD 0) (putC #[(.int .u8 128), (.int .u8 191), (.int .u8 160), (.int .u8 191), (.int .u8 128), (.int .u8 159), (.int .u8 144), (.int .u8 191), (.int .u8 128), (.int .u8 143), (.int .u8 0), (.int .u8 0), (.int .u8 0), (.int .u8 0), (.int .u8 0), (.int .u8 0), (.int .u8 0), (.int .u8 0), (.int .u8 0), (.int .u8 0), (.int .u8 0), (.int .u8 0), (.int .u8 0), (.int .u8 0), (.int .u8 0), (.int .u8 0), (.int .u8 0), (.int .u8 0), (.int .u8 0), (.int .u8 0), (.int .u8 0), (.int .u8 0)])).modify ((Tryz.prog.globalNamed "strconv.ErrRange").getD 0) (putC #[.iface 141 (.pointer (some ⟨Tryz.prog.low + 0, 0, none⟩))])).modify ((Tryz.prog.globalNamed "strconv.ErrSyntax").getD 0) (putC #[.iface 141 (.pointer (some ⟨Tryz.prog.low + 1, 0, none⟩))])).modify ((Tryz.prog.globalNamed "unicode/utf8.first").getD 0) (putC ((Go.Pinned.utf8FirstZ.map fun n => Value.int .u8 (n : Nat)).toArray))) }
theorem Qmv (os : Os) : laidMet Tryz.prog Rows.fnExactConfDiffRow.laid ((Gy os).forCall (fun _ _ => 0) ⟨#[], #[.slice none 0 0, .slice none 0 0], []⟩).memory :=
 laidMet_of_run3 8 (by kernel_rfl) (by kernel_rfl) (by kernel_rfl)
theorem reads (os : Os) {H : Type} (enc : TypeId × Value → H) : ∃ Jk, DataW.whole enc Tryz.prog ((Gy os).forCall (fun _ _ => 0) ⟨#[], #[.slice none 0 0, .slice none 0 0], []⟩).memory Tryz.f3.params.toList Rows.fnExactConfDiffSpec.vars false #[.slice none 0 0, .slice none 0 0].toList 8 = some ([.nil, .nil], [], Jk) :=
 ⟨[], by kernel_rfl⟩
theorem Qbr {W : World} {l : List (String × DataW Unit)} (h : laidMet Tryz.prog l W) {n tn : String} {d : DataW Unit} (hm : (n, .iface tn d) ∈ l) {g : Nat} (hg : Tryz.prog.globalNamed n = some g) (ht : (Tryz.prog.globals[g]?).map (·.type) = some 74) :
  ∃ e, W.cell? ⟨g, 0, none⟩ = some e ∧ (e = .nilIface ∨ ∃ te pe, e = .iface te pe) := by
 obtain ⟨g', t', cs, fuel, p, h1, h2, h3, h4⟩ := Lib.laidMet.reads h hm
 obtain rfl := Option.some.inj (hg.symm.trans h1)
 obtain rfl := Option.some.inj (ht.symm.trans h2)
 have hc : ∀ i, W.cell? ⟨g, i, none⟩ = cs[i]? := fun i => by
  unfold World.var? at h3
  rw [hg] at h3
  simp only [Option.bind_some] at h3
  split at h3
  ·rename_i c _ _ hh
   simp only [Option.some.injEq] at h3
   subst h3
   simp [World.cell?, hh]
  ·cases h3
 cases fuel with
 | zero => simp [DataW.trod] at h4
 | succ fuel =>
  simp only [DataW.trod, Tryz.underlying74] at h4
  split at h4 <;> first
   | (cases h4; done)
   | (rename_i hcs; refine ⟨_, (hc 0).trans (by rw [← Array.getElem?_toList, hcs]; rfl), ?_⟩; first | exact .inl rfl | exact .inr ⟨_, _, rfl⟩)
   | (simp at h4; done)
   | (exfalso; simp_all; done)
theorem lifted (os : Os) (started : os.Started) (H : Type) (enc : TypeId × Value → H) (F : Stop.Interp) :
  ReturnsInHanded {} Tryz.checked os 3 .any ((OpenSpec.ofChange Rows.fnExactConfDiffSpec).preRow enc Tryz.prog Tryz.f3 Rows.fnExactConfDiffRow.domain false Rows.fnExactConfDiffRow.laid) (((OpenSpec.ofChange Rows.fnExactConfDiffSpec).at F).post enc Tryz.prog Tryz.f3 false true false false) := by
 obtain ⟨Jk, hx⟩ := reads os enc
 refine returnsInHanded_of_row (C := Tryz.checked) (s := OpenSpec.ofChange Rows.fnExactConfDiffSpec) own started (by kernel_rfl) Tryz.func3
  (witness_row_at (enc := enc) (C := Tryz.checked) false (Gy os) #[.slice none 0 0, .slice none 0 0] rfl (by kernel_rfl) (by kernel_rfl) (by kernel_rfl)
   (OpenSpec.preRow_of_cond 8 hx (by kernel_rfl) (fun k hk => by cases hk) (by kernel_rfl) (Qmv os))) ?_
 intro W base args ds gs before hval0 hW hcnd _ _ hL hsh _
 have hL' : laidMet Tryz.prog Rows.fnExactConfDiffRow.laid W := by
  have h0 := hL
  unfold laidMetH at h0
  rw [show (Rows.fnExactConfDiffRow.laid.filter fun x => x.2.handleName?.isSome) = [] from by kernel_rfl] at h0
  exact h0
 have hval : ∀ (j : Nat) t v, Tryz.f3.params[j]? = some t → args[j]? = some v → Value.okWide Tryz.prog W .any base t v := hval0
 have hW' := hW
 obtain ⟨p, q, hA0, hV, rfl, hfz, hnd⟩ := hW
 have hA : DataW.TrodAll enc Tryz.prog W 0 (fun _ => true) true Tryz.f3.params.toList args.toList ds p := hA0
 rw [Tryz.params3] at hA hval
 obtain ⟨v0, vs0, d0, ds0, p0, q0, hargs, rfl, rfl, h0, r0⟩ := trodAll_cons hA
 obtain ⟨v1, vs1, d1, ds1, p1, q1, rfl, rfl, rfl, h1, r1⟩ := trodAll_cons r0
 obtain ⟨rfl, rfl, rfl⟩ := trodAll_nil r1
 obtain rfl : args = #[v0, v1] := by cases args; simp_all
 obtain ⟨rfl, rfl⟩ := trodVars_none hV
 obtain ⟨fu0, t0⟩ := h0
 obtain ⟨a0, n0, c0, rfl⟩ := okWide_slice Tryz.underlying22 (hval 0 22 v0 rfl rfl)
 obtain ⟨x0, u0, us0, e0, o0, -⟩ := Qmo H enc W fu0 _ _ t0
 obtain ⟨o0, b0⟩ := Qhh o0
 obtain rfl : u0 = _ := (List.cons.inj e0).1.symm
 obtain ⟨fu1, t1⟩ := h1
 obtain ⟨a1, n1, c1, rfl⟩ := okWide_slice Tryz.underlying22 (hval 1 22 v1 rfl rfl)
 obtain ⟨x1, u1, us1, e1, o1, -⟩ := Qmo H enc W fu1 _ _ t1
 obtain ⟨o1, b1⟩ := Qhh o1
 obtain rfl : u1 = _ := (List.cons.inj e1).1.symm
 have hG : GP W := ⟨fun b hb => by
  simp only [GBe, List.nil_append, List.cons_append, List.mem_cons, List.not_mem_nil, or_false] at hb
  rcases hb with rfl | rfl
  ·exact Qbr hL' (n := "strconv.ErrSyntax") (by unfold Rows.fnExactConfDiffRow; exact List.mem_cons_of_mem _ (List.mem_cons_of_mem _ (List.mem_cons_of_mem _ (List.mem_cons_of_mem _ (List.mem_cons_of_mem _ (List.mem_cons_self)))))) (show Tryz.prog.globalNamed "strconv.ErrSyntax" = some ((Tryz.prog.globalNamed "strconv.ErrSyntax").getD 0) from by kernel_rfl) (by kernel_rfl)
  ·exact Qbr hL' (n := "strconv.ErrRange") (by unfold Rows.fnExactConfDiffRow; exact List.mem_cons_of_mem _ (List.mem_cons_of_mem _ (List.mem_cons_of_mem _ (List.mem_cons_of_mem _ (List.mem_cons_self))))) (show Tryz.prog.globalNamed "strconv.ErrRange" = some ((Tryz.prog.globalNamed "strconv.ErrRange").getD 0) from by kernel_rfl) (by kernel_rfl), fun b hb => by simp only [GBi, List.nil_append, List.mem_cons, List.not_mem_nil, or_false] at hb; subst hb; exact layCutM.s1_3 W hsh, fun q hq => by
  simp only [GBt, List.nil_append, List.mem_cons, List.not_mem_nil, or_false] at hq
  subst hq
  obtain ⟨g', t', cs, fuel, p, h1, h2, h3, h4⟩ := Lib.laidMet.reads hL' (n := "internal/strconv.uint64pow10") (by unfold Rows.fnExactConfDiffRow; exact List.mem_cons_of_mem _ (List.mem_cons_of_mem _ (List.mem_cons_self)))
  obtain rfl := Option.some.inj ((show Tryz.prog.globalNamed "internal/strconv.uint64pow10" = some ((Tryz.prog.globalNamed "internal/strconv.uint64pow10").getD 0) from by kernel_rfl).symm.trans h1)
  obtain rfl := Option.some.inj ((show (Tryz.prog.globals[(Tryz.prog.globalNamed "internal/strconv.uint64pow10").getD 0]?).map (·.type) = some 145 from by kernel_rfl).symm.trans h2)
  have hc := Lib.cells_of_tab (k := .u64) (zs := Lib.pow10Tab) Tryz.underlying145 Tryz.underlying65 (by kernel_rfl) (by kernel_rfl) h4
  unfold World.var? at h3
  rw [(show Tryz.prog.globalNamed "internal/strconv.uint64pow10" = some ((Tryz.prog.globalNamed "internal/strconv.uint64pow10").getD 0) from by kernel_rfl)] at h3
  simp only [Option.bind_some] at h3
  split at h3
  ·rename_i c T fz hh
   simp only [Option.some.injEq] at h3
   subst h3
   exact ⟨T, fz, hh.trans (by congr 1; congr 1; exact Array.ext' (by simpa using hc))⟩
  ·cases h3⟩
 have hc := Qoz (W := W) (vs := [.slice a0 n0 c0, .slice a1 n1 c1]) (ok3 x0 x1) (And.intro (b0) (b1)) (x := .bool (F3 x0 x1)) hG ⟨_, _, [], [], rfl, ⟨o0, rfl⟩, ⟨_, _, [], [], rfl, ⟨o1, rfl⟩, ⟨rfl, rfl⟩, rfl, List.nodup_nil⟩, rfl, List.nodup_nil⟩ rfl rfl
 rw [Qqu x0 x1] at hc
 refine hc.mono fun e W' ⟨he, hb⟩ => ?_
 subst he
 exact ⟨_, rfl, Qpq rfl hW' hb rfl Tryz.underlying4 rfl rfl rfl laid (by decide +kernel)⟩
theorem said_FnExactConfDiff : Rows.FnExactConfDiffSaid :=
 OpenClaim.holds_of_cond 3 Tryz.f3 rfl rfl rfl rfl rfl rfl rfl ⟨rfl, rfl, rfl, rfl, rfl⟩ rfl rfl rfl rfl rfl (by kernel_rfl) Tryz.func3 (by
   show joinedFacts Tryz.prog 3 Tryz.f3 (OpenSpec.ofChange Rows.fnExactConfDiffSpec).bare Rows.fnExactConfDiffRow = true
   simp only [joinedFacts, laid, cfMaps, cfKeys, Qqj, Qqc, Qqw, cfMake, cfA, cfB, cfC, cfD, Bool.and_true]
   kernel_rfl)
  (of_decide_eq_true (by kernel_rfl)) (by unfold Func.isWrapper; first | (rw [if_pos (by decide +kernel)]; kernel_rfl) | (rw [if_neg (by decide +kernel)]; exact ⟨rfl, rfl⟩))
  (fun os started H enc _ F => by rw [OpenClaim.pre_eq_preRow]; exact lifted os started H enc F)
theorem Qjb (f : FuncId) (fn : Func) (hf : Tryz.pinned.checked.prog.funcNamed "loop.example/tern/laws.FnExactConfDiff" = some f) (hfn : Tryz.pinned.checked.prog.funcs[f]? = some fn) :
  true = Tryz.pinned.checked.prog.looks [] ∧ ∀ (j : Nat) t, fn.params[j]? = some t → Tryz.pinned.checked.prog.wantsStandIn t = false := by
 obtain rfl : f = 3 := Option.some.inj ((show Tryz.prog.funcNamed "loop.example/tern/laws.FnExactConfDiff" = some 3 by kernel_rfl).symm.trans hf) |>.symm
 obtain rfl : fn = Tryz.f3 := (Option.some.inj (Tryz.func3.symm.trans hfn)).symm
 refine ⟨by kernel_rfl, fun j t ht => ?_⟩
 rw [Tryz.params3] at ht
 have hm := Array.mem_of_getElem? ht
 simp only [List.mem_toArray, List.mem_cons, List.not_mem_nil, or_false] at hm
 rcases hm with rfl | rfl
 ·exact (show Tryz.prog.wantsStandIn 22 = false by kernel_rfl)
 ·exact (show Tryz.prog.wantsStandIn 22 = false by kernel_rfl)
theorem card_wf : Rows.fnExactConfDiffRow.wfByText (OpenSpec.ofChange Rows.fnExactConfDiffSpec) = true := by kernel_rfl
theorem card_main : Tryz.prog.mainIs = some (Rows.fnExactConfDiffCard.stood.harness.1, Rows.fnExactConfDiffCard.stood.harness.2.toList) := by kernel_rfl
theorem card_goes : false = Rows.fnExactConfDiffRow.goesBy Tryz.prog := by kernel_rfl
theorem proved_FnExactConfDiff : Rows.FnExactConfDiffCardSaid :=
 Claim7.holds_tied_plain_at .later [] _ _ _ _ said_FnExactConfDiff (fun _ h => by cases h) card_wf (fun _ h => by cases h) fnExactConfDiff_row_tie rfl ⟨rfl, rfl⟩ card_main rfl Qjb card_goes
#print axioms proved_FnExactConfDiff
end Go.Proofs.YtmoodkjkecjeaacGreatDoor
