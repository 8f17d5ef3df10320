/- A part of the proof of FnExactConfPrint. Texts put together: MT, MY, MYB, MP, MX, LY, DEC, VC0, PS1, VC1, PS2, VC2, PS3, PS4, VF0, PF0, VF1, VF2, PN1, PN2, PN3, PN4, PA1, PA2. -/
import Derived.Shelf.Strings.Cut
import Derived.Shelf.Strings.Split
import Derived.Shelf.Strings.OnBuilder
import Derived.Shelf.Slices.In.SortAlone
import Derived.Shelf.Slices.In.SortNone
import Derived.Sort.EveryDepth
import Derived.Test.YtmoodkjkecjeaabGreatDoorRows
import Derived.Shelf.LaysM
import Derived.Shelf.Strconv.AtoiAll
import Derived.Shelf.Strconv.Itoa3
import Derived.WalkKit
import Derived.BigCall
import Derived.BigGuard
import Derived.Lib.Walk
import Derived.Lib.Hide
import Derived.Lib.IndexBytes
import Derived.Lib.SplitLaws
import Derived.Lib.CutLaws
import Derived.Lib.AtoiAll
import Derived.Lib.ItoaNum
import Derived.Test.YtmoodkjkecjeaabGreatDoorZC39B
namespace Go.Proofs.YtmoodkjkecjeaabGreatDoor
open Go.RowKit
set_option maxRecDepth 100000
set_option linter.unusedVariables false
set_option linter.unusedSimpArgs false
def first (p : Nat → Bool) (n : Nat) : Option Nat := (List.range n).find? p
theorem first_some {p : Nat → Bool} {n k : Nat} : first p n = some k ↔ k < n ∧ p k = true ∧ ∀ j, j < k → p j = false := by
 unfold first
 rw [List.find?_range_eq_some]
 constructor
 ·rintro ⟨h1, h2, h3⟩
  exact ⟨by simpa using h2, h1, fun j hj => by simpa using h3 j hj⟩
 ·rintro ⟨h1, h2, h3⟩
  exact ⟨h2, by simpa using h1, fun j hj => by simpa using h3 j hj⟩
theorem first_none {p : Nat → Bool} {n : Nat} : first p n = none ↔ ∀ k, k < n → p k = false := by
 unfold first
 rw [List.find?_range_eq_none]
 simp
theorem search {ρ τ : Type} (p : Nat → Bool) (r : Nat → ρ) (n : Nat) (step : Int → Lp Int ρ) (hs : ∀ k : Nat, k < n → step (k : Int) = bif p k then .ret (r k) else .next ((k : Int) + 1)) (he : step (n : Int) = .done (n : Int)) (f : ρ → τ) (g : Int → τ) :
  (runL step ((Int.toNat ((n : Int) - 0)) + 1) 0).fin f g = match first p n with | some k => f (r k) | none => g n := by
 have h := Ky (step := step) (fun (k : Nat) (_ : Unit) => (k : Int)) n (fun k _ => ∀ j, j < k → p j = false) (fun x => ∃ k, first p n = some k ∧ x = r k)
  (fun k _ hk hI => by
   cases hp : p k with
   | false =>
    refine .inl ⟨(), by rw [hs k hk, hp]; rfl, fun j hj => ?_⟩
    rcases Nat.lt_succ_iff_lt_or_eq.1 hj with h | rfl
    ·exact hI j h
    ·exact hp
   | true => exact .inr ⟨r k, by rw [hs k hk, hp]; rfl, k, first_some.2 ⟨hk, hp, hI⟩, rfl⟩)
  (fun _ _ => he) n 0 () (by omega) (fun j hj => by omega) (n + 1) (Nat.lt_succ_self _)
 rw [n0]
 rcases h with ⟨_, h, hI⟩ | ⟨x, h, k, hk, rfl⟩
 ·have h : runL step (n + 1) 0 = .done (n : Int) := h
  rw [h, first_none.2 hI]; rfl
 ·have h : runL step (n + 1) 0 = .ret (r k) := h
  rw [h, hk]; rfl
def oix : Option Nat → Int
 | some k => (k : Int)
 | none => -1
theorem oix_lt {p : Nat → Bool} {n : Nat} : oix (first p n) < (n : Int) := by
 cases h : first p n with
 | none => simp only [oix]; omega
 | some k => have := (first_some.1 h).1; simp only [oix]; omega
theorem oix_neg {o : Option Nat} : oix o < 0 ↔ o = none := by
 cases o with
 | none => simp [oix]
 | some k => simp [oix]
theorem Qui {o : Option Nat} (h : ¬ oix o < 0) : o = some (oix o).toNat := by
 cases o with
 | none => exact absurd (by decide) h
 | some k => simp [oix]
def idxI {α : Type} [Inhabited α] (p : α → Bool) (xs : List α) : Int := oix (first (fun k => p (xs.getD k default)) xs.length)
theorem Jj {α : Type} [Inhabited α] (p : α → Bool) (xs : List α) (step : Int → Lp Int Int)
  (hs : ∀ i, step i = bif decide (i < (xs.length : Int)) then (bif p (xs.getD (Int.toNat i) default) then .ret i else .next (i + 1)) else .done i) :
  (runL step ((Int.toNat ((xs.length : Int) - 0)) + 1) 0).fin (fun r => r) (fun _ => -1) = idxI p xs := by
 rw [search (fun k => p (xs.getD k default)) (fun k => (k : Int)) xs.length step (fun k hk => by rw [hs, ltD hk, nn]; rfl) (by rw [hs, geD]; rfl)]
 unfold idxI
 all_goals (cases first (fun k => p (xs.getD k default)) xs.length <;> rfl)
theorem Nc {α : Type} [Inhabited α] (p : α → Bool) (xs : List α) : decide (idxI p xs ≥ 0) = xs.any p := by
 rw [Bool.eq_iff_iff, decide_eq_true_eq, List.any_eq_true]
 constructor
 ·intro h
  have h' : ¬ idxI p xs < 0 := by omega
  have h2 := first_some.1 (Qui h')
  exact ⟨_, Wh xs h2.1, h2.2.1⟩
 ·rintro ⟨x, hx, hp⟩
  obtain ⟨k, hk, rfl⟩ := Hq hx
  rcases Int.lt_or_le (idxI p xs) 0 with h | h
  ·have := first_none.1 (oix_neg.1 h) k hk
   simp only [hp] at this
   cases this
  ·exact h
theorem Gw {α : Type} [Inhabited α] (p : α → Bool) (xs : List α) : idxI p xs < (xs.length : Int) := oix_lt
theorem beqD (a b : Int) : (a == b) = decide (a = b) := by
 by_cases h : a = b <;> simp [h]
theorem Qal {α : Type} (xs : List α) {i : Nat} (a : α) (h : i < xs.length) : (xs.set i a).take (i + 1) = xs.take i ++ [a] := by
 rw [List.take_add_one, List.take_set_of_le (Nat.le_refl _), List.getElem?_set_self h]; rfl
theorem Zz {α : Type} [Inhabited α] (p : α → Bool) (s : List α) {k : Nat} (h : k < s.length) : (s.take (k + 1)).filter p = (s.take k).filter p ++ (if p (s.getD k default) then [s.getD k default] else []) := by
 rw [Lq h, List.filter_append]
 congr 1
 simp only [List.filter_cons, List.filter_nil]
theorem Qeu {α : Type} [Inhabited α] (del : α → Bool) (s : List α) (z : α) (step : Int × Int × List α → Lp (Int × Int × List α) (List α))
  (hs : ∀ i j xs, step (i, j, xs) = bif decide (j < (xs.length : Int)) then (bif (!(del (xs.getD (Int.toNat j) default))) then .next (i + 1, j + 1, xs.set (Int.toNat i) (xs.getD (Int.toNat j) default)) else .next (i, j + 1, xs)) else .done (i, j, xs)) :
  (bif (idxI del s == (-1)) then s else (((runL step ((Int.toNat ((s.length : Int) - (idxI del s + 1))) + 1) (idxI del s, idxI del s + 1, s)).fin Lp.ret (fun x => (Lp.done (x.2.2, x.1) : Lp (List α × Int) (List α)))).fin (fun r => r) (fun x => ((x.1.take (Int.toNat x.2) ++ List.replicate (x.1.drop (Int.toNat x.2)).length z ++ x.1.drop (Int.toNat x.2 + (x.1.drop (Int.toNat x.2)).length)).take (Int.toNat x.2))))) = s.filter (fun x => !(del x)) := by
 unfold idxI
 cases e : first (fun k => del (s.getD k default)) s.length with
 | none =>
  have hn := first_none.1 e
  have e1 : (oix (none : Option Nat) == (-1 : Int)) = true := rfl
  rw [e1, cond_true]
  symm
  refine List.filter_eq_self.2 fun x hx => ?_
  obtain ⟨k, hk, rfl⟩ := Hq hx
  simpa using hn k hk
 | some k0 =>
  obtain ⟨h1, h2, h3⟩ := first_some.1 e
  have e1 : (oix (some k0) == (-1 : Int)) = false := by rw [beqD]; exact decide_eq_false (by simp only [oix]; omega)
  rw [e1, cond_false]
  simp only [oix]
  have hpre : (s.take (k0 + 1)).filter (fun x => !(del x)) = s.take k0 := by
   rw [Zz _ _ h1]
   simp only [h2, Bool.not_true, Bool.false_eq_true, if_false, List.append_nil]
   refine List.filter_eq_self.2 fun x hx => ?_
   obtain ⟨k, hk, rfl⟩ := List.mem_iff_getElem.1 hx
   have hk' : k < k0 := by simp at hk; omega
   have := h3 k hk'
   rw [Kf s (by omega)] at this
   simpa using this
  have h := Ky (step := step) (fun (k : Nat) (x : Nat × List α) => ((x.1 : Int), (k : Int), x.2)) s.length
   (fun k x => x.1 < k ∧ x.2.length = s.length ∧ x.2.take x.1 = (s.take k).filter (fun x => !(del x)) ∧ ∀ m, k ≤ m → x.2.getD m default = s.getD m default) (fun _ => False)
   (fun k x hk ⟨g1, g2, g3, g4⟩ => by
    obtain ⟨i, xs⟩ := x
    simp only at g1 g2 g3 g4
    have hx := g4 k (Nat.le_refl _)
    cases hd : del (s.getD k default) with
    | false =>
     refine .inl ⟨(i + 1, xs.set i (s.getD k default)), ?_, by simp only; omega, by simp [g2], ?_, fun m hm => ?_⟩
     ·rw [hs, g2, ltD hk, nn, hx, hd]
      simp only [cond_true, Bool.not_false, nn]
      rfl
     ·simp only
      rw [Qal xs _ (by omega), g3, Zz _ _ hk, hd]
      rfl
     ·simp only
      rw [List.getD_eq_getElem?_getD, List.getElem?_set_ne (by omega), ← List.getD_eq_getElem?_getD]
      exact g4 m (by omega)
    | true =>
     refine .inl ⟨(i, xs), ?_, by simp only; omega, g2, ?_, fun m hm => g4 m (by omega)⟩
     ·rw [hs, g2, ltD hk, nn, hx, hd]
      simp only [cond_true, Bool.not_true, cond_false]
      rfl
     ·simp only
      rw [g3, Zz _ _ hk, hd]
      simp)
   (fun x ⟨_, g2, _, _⟩ => by rw [hs, g2, geD]; rfl) (s.length - (k0 + 1)) (k0 + 1) (k0, s) (by omega) ⟨Nat.lt_succ_self _, rfl, hpre.symm, fun _ _ => rfl⟩ (s.length - (k0 + 1) + 1) (Nat.lt_succ_self _)
  have ef : Int.toNat ((s.length : Int) - ((k0 : Int) + 1)) = s.length - (k0 + 1) := by omega
  rw [ef]
  rcases h with ⟨⟨i, xs⟩, h, g1, g2, g3, g4⟩ | ⟨_, _, h⟩
  ·have h : runL step (s.length - (k0 + 1) + 1) ((k0 : Int), (k0 : Int) + 1, s) = .done ((i : Int), (s.length : Int), xs) := h
   simp only at g1 g2 g3
   rw [h]
   simp only [Lp.fin, nn]
   rw [List.take_length] at g3
   rw [← g3, List.append_assoc, List.take_append_of_le_length (by simp; omega), List.take_take, Nat.min_self]
  ·exact h.elim
def RdAll (S : Nat → Prop) (w : World) : List (Value × Dat) → Prop
 | [] => True
 | p :: r => RdV S w p.2 p.1 ∧ RdAll S w r
theorem RdAll.mono {S S' : Nat → Prop} {w w' : World} (hs : ∀ b, S b → S' b ∧ w'.heap[b]? = w.heap[b]?) : ∀ {ds : List (Value × Dat)}, RdAll S w ds → RdAll S' w' ds
 | [], _ => trivial
 | p :: r, h => ⟨RdV.mono hs p.2 p.1 h.1, RdAll.mono hs h.2⟩
def LX (ds : List (Value × Dat)) : FX where
 rd S w y := y.oneCell' = true ∧ RdAll S w ds
 ow w y fp := (y.oneCell' = true ∧ RdAll (· ∈ fp) w ds) ∧ fp.Nodup ∧ ∀ b ∈ fp, b < w.heap.size
 mono S S' w w' y hs h := ⟨h.1, h.2.mono hs⟩
 one S w y h := h.1
 keep w w' y fp hk h := ⟨⟨h.1.1, h.1.2.mono fun b hb => ⟨hb, hk b hb⟩⟩, h.2.1, fun b hb => Bm (h.2.2 b hb) (hk b hb)⟩
 lt w y fp h := h.2.2
 nd w y fp h := h.2.1
 rdo w y fp h := h.1
def BX (s : ByteArray) (n : Nat) : FX where
 rd S w y := y = .string s ∧ s.size ≤ n
 ow w y fp := (y = .string s ∧ s.size ≤ n) ∧ fp = []
 mono S S' w w' y hs h := h
 one S w y h := by rw [h.1]; rfl
 keep w w' y fp hk h := h
 lt w y fp h b hb := by rw [h.2] at hb; cases hb
 nd w y fp h := by rw [h.2]; exact List.nodup_nil
 rdo w y fp h := h.1
theorem Imp.bx {s : ByteArray} {n : Nat} (h : s.size ≤ n) : Imp (.v (.string s)) (.x (BX s n)) := ⟨fun S w y hy => ⟨hy.1, h⟩, fun w y fp hy => ⟨⟨hy.1, h⟩, hy.2.2⟩⟩
theorem Qbk {P : Program} {f : FuncId} {i : ByteArray} {n : Nat} {cap : List Arg} {r : RT} {D : Bool} (h : Spec.ok P f ⟨.r (.c (.v (.string i))) :: cap, r, i.size ≤ n⟩ D) : Spec.ok P f ⟨.r (.c (.x (BX i n))) :: cap, r, True⟩ D := by
 intro _ S w vs fp hS hG ha
 obtain ⟨u, us, f1, g1, rfl, ⟨h1, h1'⟩, h2, rfl, h3⟩ := ha
 obtain ⟨rfl, hn⟩ : u = .string i ∧ i.size ≤ n := h1
 have := h hn S w (.string i :: us) (f1 ++ g1) hS hG ⟨_, us, f1, g1, rfl, ⟨⟨rfl, rfl⟩, h1'⟩, h2, rfl, h3⟩
 refine this.mono fun e w' ⟨rv, fr, fb, e1, e2, e3, e4⟩ => ⟨rv, fr, fb, e1, e2, ?_, e4⟩
 obtain ⟨u', us', f', g', k1, k2, k3, k4⟩ := e3
 simp only [List.cons.injEq] at k1
 obtain ⟨rfl, rfl⟩ := k1
 exact ⟨_, _, f', g', rfl, k2, k3, k4⟩
def PX (d : Dat) (Q : Prop) : FX where
 rd S w y := RdV S w d y ∧ Q
 ow w y fp := OwV w d y fp ∧ Q
 mono S S' w w' y hs h := ⟨RdV.mono hs d y h.1, h.2⟩
 one S w y h := h.1.one
 keep w w' y fp hk h := ⟨OwV.keep d y fp hk h.1, h.2⟩
 lt w y fp h := OwV.lt d y fp h.1
 nd w y fp h := h.1.nd
 rdo w y fp h := ⟨OwV.rd d y fp h.1, h.2⟩
theorem Imp.px {d : Dat} {Q : Prop} (h : Q) : Imp d (.x (PX d Q)) := ⟨fun S w y hy => ⟨hy, h⟩, fun w y fp hy => ⟨hy, h⟩⟩
def pxH : List Dat → Prop → List Dat
 | [], _ => []
 | d :: ds, Q => .x (PX d Q) :: ds
theorem Imps.pxH {ds : List Dat} {Q : Prop} (h : Q) : Imps ds (pxH ds Q) := by
 cases ds with
 | nil => trivial
 | cons d ds => exact ⟨Imp.px h, Imps.refl ds⟩
theorem Qup {P : Program} {f : FuncId} {a b : RA} {Q : Prop} {cap : List Arg} {r : RT} {D : Bool} (hab : ∀ S w v, Qmu S w b v → Qmu S w a v ∧ Q) (h : Spec.ok P f ⟨.r a :: cap, r, Q⟩ D) : Spec.ok P f ⟨.r b :: cap, r, True⟩ D := by
 intro _ S w vs fp hS hG ha
 obtain ⟨u, us, f1, g1, rfl, ⟨h1, h1'⟩, h2, rfl, h3⟩ := ha
 obtain ⟨k1, hn⟩ := hab S w u h1
 have := h hn S w (u :: us) (f1 ++ g1) hS hG ⟨_, us, f1, g1, rfl, ⟨k1, h1'⟩, h2, rfl, h3⟩
 refine this.mono fun e w' ⟨rv, fr, fb, e1, e2, e3, e4⟩ => ⟨rv, fr, fb, e1, e2, ?_, e4⟩
 obtain ⟨u', us', f', g', k1, k2, k3, k4⟩ := e3
 simp only [List.cons.injEq] at k1
 obtain ⟨rfl, rfl⟩ := k1
 exact ⟨_, _, f', g', rfl, k2, k3, k4⟩
theorem Xo {P : Program} {f : FuncId} {d : Dat} {Q : Prop} {cap : List Arg} {r : RT} {D : Bool} (h : Spec.ok P f ⟨.r (.c d) :: cap, r, Q⟩ D) : Spec.ok P f ⟨.r (.c (.x (PX d Q))) :: cap, r, True⟩ D :=
 Qup (a := .c d) (Q := Q) (fun S w v hv => hv) h
theorem Qrq {P : Program} {f : FuncId} {d : Dat} {ds : List Dat} {Q : Prop} {cap : List Arg} {r : RT} {D : Bool} (h : Spec.ok P f ⟨.r (.g (d :: ds)) :: cap, r, Q⟩ D) : Spec.ok P f ⟨.r (.g (pxH (d :: ds) Q)) :: cap, r, True⟩ D :=
 Qup (fun S w v hv => by
  obtain ⟨vs, e, u, us, rfl, h1, h2⟩ := hv
  exact ⟨⟨_, e, u, us, rfl, h1.1, h2⟩, h1.2⟩) h
def toSV : Value → SV
 | .slice a n c => ⟨a, n, c⟩
 | _ => default
theorem RdV.at_sv {S : Nat → Prop} {w : World} {d : Dat} {v : Value} {x : SV} (e : v = sv x) (h : RdV S w d v) : RdV S w d (sv x) := e ▸ h
theorem row3 {S : Nat → Prop} {w : World} {a b c : Value} {d : Dat} (h : RdV S w d c) : ∀ cs, RdVs S w [.v a, .v b, .v c] cs → RdVs S w [.v a, .v b, d] cs := fun cs hc => by
 obtain ⟨u, us, rfl, h1, v, vs, rfl, h2, x, xs, rfl, h3, rfl⟩ := hc
 obtain ⟨rfl, _⟩ := h3
 exact ⟨u, _, rfl, h1, v, _, rfl, h2, _, _, rfl, h, rfl⟩
section
variable {P : Program} {N : Nat} {fs fs' : Nat → Option Fact} {β : Nat → Nat → Value} {φ φ' : Nat → List Nat} {dom ψ IN : Nat → Prop} {w0 w : World}
theorem Rel.pack (R : Rel P fs β φ dom ψ IN w0 w) (src : Nat → List Nat)
  (hok : ∀ X f, fs' X = some f → dom X ∧ Kn P fs' β φ' dom ψ w X f)
  (hsrc : ∀ X f, fs' X = some f → f.mod = true → ∀ b ∈ φ' X, ∃ Y ∈ src X, (∃ g, fs Y = some g ∧ g.mod = true) ∧ b ∈ φ Y)
  (hd : ∀ X X', X ≠ X' → (∃ f, fs' X = some f) → (∃ f, fs' X' = some f) → ∀ Y ∈ src X, Y ∉ src X') : Rel P fs' β φ' dom ψ IN w0 w where
 ok := hok
 dis i j f g hi hj mi mj hne b hb hb' := by
  obtain ⟨Y, h1, ⟨g1, h2, h3⟩, h4⟩ := hsrc i f hi mi b hb
  obtain ⟨Y', k1, ⟨g2, k2, k3⟩, k4⟩ := hsrc j g hj mj b hb'
  have hne' : Y ≠ Y' := fun e => hd i j hne ⟨_, hi⟩ ⟨_, hj⟩ Y h1 (e ▸ k1)
  exact R.dis Y Y' g1 g2 h2 k2 h3 k3 hne' b h4 k4
 lt id f hf hm b hb := by
  obtain ⟨Y, h1, ⟨g1, h2, h3⟩, h4⟩ := hsrc id f hf hm b hb
  exact R.lt Y g1 h2 h3 b h4
 psi := R.psi
 all1 := R.all1
 chg := R.chg
 glo := R.glo
theorem Rel.fpnd (R : Rel P fs β φ dom ψ IN w0 w) {id : Nat} {g : Fact} (h : fs id = some g) (hm : g.mod = true) : (φ id).Nodup := by
 have h2 := (R.ok id g h).2
 cases g <;> simp only [Fact.mod] at hm <;> first | cases hm | skip
 case box T cs => obtain ⟨_, b, _, _, e⟩ := h2; rw [e]; exact (List.nodup_cons.2 ⟨List.not_mem_nil, List.nodup_nil⟩)
 case own V d => exact (h2.2 : OwV w d _ _).nd
 case arr n cs => obtain ⟨_, b, T, _, _, e⟩ := h2; rw [e]; exact (List.nodup_cons.2 ⟨List.not_mem_nil, List.nodup_nil⟩)
def Qia (fs : Nat → Option Fact) (ids : List Nat) : Bool := ids.all fun id => match fs id with | some g => g.mod | none => false
theorem Qcm {ids : List Nat} (h : Qia fs ids = true) : ∀ id ∈ ids, ∃ g, fs id = some g ∧ g.mod = true := fun id hid => by
 have := List.all_eq_true.1 h id hid
 split at this
 ·rename_i g e; exact ⟨g, e, this⟩
 ·cases this
theorem Rel.flat_nd (R : Rel P fs β φ dom ψ IN w0 w) : ∀ {ids : List Nat}, ids.Nodup → (∀ id ∈ ids, ∃ g, fs id = some g ∧ g.mod = true) → (ids.flatMap φ).Nodup
 | [], _, _ => List.nodup_nil
 | id :: ids, hn, hm => by
  obtain ⟨n1, n2⟩ := List.nodup_cons.1 hn
  obtain ⟨g, h1, h2⟩ := hm id List.mem_cons_self
  simp only [List.flatMap_cons]
  refine List.nodup_append.2 ⟨R.fpnd h1 h2, R.flat_nd n2 fun x hx => hm x (List.mem_cons_of_mem _ hx), fun b hb b' hb' e => ?_⟩
  subst e
  obtain ⟨Y, hY, hbY⟩ := List.mem_flatMap.1 hb'
  obtain ⟨g', h3, h4⟩ := hm Y (List.mem_cons_of_mem _ hY)
  exact R.dis id Y g g' h1 h3 h2 h4 (fun e => n1 (e ▸ hY)) b hb hbY
theorem Rel.flat_lt (R : Rel P fs β φ dom ψ IN w0 w) {ids : List Nat} (hm : ∀ id ∈ ids, ∃ g, fs id = some g ∧ g.mod = true) : ∀ b ∈ ids.flatMap φ, b < w.heap.size := fun b hb => by
 obtain ⟨Y, hY, hbY⟩ := List.mem_flatMap.1 hb
 obtain ⟨g, h1, h2⟩ := hm Y hY
 exact (R.lt Y g h1 h2 b hbY).1
theorem Yh (h : FnH P) (hcap : h.cap = []) (hp : h.pre) {S : Nat → Prop} (hlt : ∀ b, S b → b < w.heap.size) (hcl : Qy P h.f = true) {F : Uw} (hF : h.F = F) : FnOK false P S w F (val β (.cl h.f [])) :=
 hF ▸ FnOK.weak (h.fnOK hp hlt (cap := []) (by rw [hcap]; exact ⟨rfl, rfl⟩) hcl)
theorem Qde (R : Rel P fs β φ dom ψ IN w0 w) {a : Nat} {T : TypeId} {cs : List AV} (ha : fs a = some (.box T cs)) : ∃ b, val β (.p a 0) = .pointer (some ⟨b, 0, none⟩) ∧ Box w b T (vals β cs) ∧ φ a = [b] := by
 obtain ⟨_, _, b, e1, e2, e3⟩ := R.ok a _ ha
 exact ⟨b, by simp only [val, e1, padd, Nat.add_zero], e2, e3⟩
theorem Wf (R : Rel P fs β φ dom ψ IN w0 w) (h : FnH P) {a c : Nat} {T U : TypeId} {x y : Value} (ha : fs a = some (.box T [.v x])) (hc : fs c = some (.box U [.v y])) (hcap : h.cap = [.rp [.v x], .rp [.v y]]) (hp : h.pre)
  {S : Nat → Prop} (h1 : ∀ b ∈ φ a, S b) (h2 : ∀ b ∈ φ c, S b) (hlt : ∀ b, S b → b < w.heap.size) (hcl : Qy P h.f = true) (hx : x.oneCell' = true) (hy : y.oneCell' = true) {F : Uw} (hF : h.F = F) : FnOK false P S w F (val β (.cl h.f [.p a 0, .p c 0])) := by
 obtain ⟨b, e1, e2, e3⟩ := Qde R ha
 obtain ⟨b', k1, k2, k3⟩ := Qde R hc
 have := FnOK.weak (h.fnOK hp hlt (cap := [val β (.p a 0), val β (.p c 0)]) (by
  rw [hcap]
  refine ⟨_, _, [], [], rfl, ⟨⟨b, 0, [x], e1, h1 b (by rw [e3]; exact List.mem_singleton.2 rfl), e2.has 0 [x] rfl, x, [], rfl, ⟨rfl, hx⟩, rfl⟩, rfl⟩, ?_, rfl, List.nodup_nil⟩
  exact ⟨_, _, [], [], rfl, ⟨⟨b', 0, [y], k1, h2 b' (by rw [k3]; exact List.mem_singleton.2 rfl), k2.has 0 [y] rfl, y, [], rfl, ⟨rfl, hy⟩, rfl⟩, rfl⟩, ⟨rfl, rfl⟩, rfl, List.nodup_nil⟩) hcl)
 rw [← hF]
 exact this
theorem Qrd (R : Rel P fs β φ dom ψ IN w0 w) (h : FnH P) {a o V : Nat} {T : TypeId} {d : Dat} (ha : fs a = some (.box T [.h o 0])) (ho : fs o = some (.own V d)) (hcap : h.cap = [.rp [d]]) (hp : h.pre)
  {S : Nat → Prop} (h1 : ∀ b ∈ φ a, S b) (h2 : ∀ b ∈ φ o, S b) (hlt : ∀ b, S b → b < w.heap.size) (hcl : Qy P h.f = true) {F : Uw} (hF : h.F = F) : FnOK false P S w F (val β (.cl h.f [.p a 0])) := by
 obtain ⟨b, e1, e2, e3⟩ := Qde R ha
 obtain ⟨_, _, k1⟩ := R.ok o _ ho
 have := FnOK.weak (h.fnOK hp hlt (cap := [val β (.p a 0)]) (by
  rw [hcap]
  exact ⟨_, _, [], [], rfl, ⟨⟨b, 0, [β o 0], e1, h1 b (by rw [e3]; exact List.mem_singleton.2 rfl), e2.has 0 [β o 0] rfl, β o 0, [], rfl, RdV.mono (fun b hb => ⟨h2 b hb, rfl⟩) _ _ (OwV.rd _ _ _ k1), rfl⟩, rfl⟩, ⟨rfl, rfl⟩, rfl, List.nodup_nil⟩) hcl)
 rw [← hF]
 exact this
def FnsOK (P : Program) (S : Nat → Prop) (w : World) {α : Type} (F : α → Uw) : List α → List Value → Prop
 | [], vs => vs = []
 | p :: ps, vs => ∃ u us, vs = u :: us ∧ FnOK false P S w (F p) u ∧ FnsOK P S w F ps us
theorem FnsOK.at {S : Nat → Prop} {α : Type} {F : α → Uw} : ∀ {ps : List α} {vs : List Value}, FnsOK P S w F ps vs → vs.length = ps.length ∧ ∀ (i : Nat) (p : α), ps[i]? = some p → ∃ u, vs[i]? = some u ∧ FnOK false P S w (F p) u
 | [], vs, h => by rw [h]; exact ⟨rfl, fun i p hp => by simp at hp⟩
 | p :: ps, vs, h => by
  obtain ⟨u, us, rfl, h1, h2⟩ := h
  obtain ⟨e, h3⟩ := FnsOK.at h2
  refine ⟨by simp [e], fun i q hq => ?_⟩
  cases i with
  | zero => simp only [List.getElem?_cons_zero, Option.some.injEq] at hq; subst hq; exact ⟨u, rfl, h1⟩
  | succ i => simpa using h3 i q (by simpa using hq)
theorem Kt (R : Rel P fs β φ dom ψ IN w0 w) {α : Type} [Inhabited α] {o n : Nat} {cs : List AV} {ps : List α} {F : α → Uw} {enc : α → List Dat} (ho : fs o = some (.arr n cs)) (hn : n = ps.length) (hm : n ≤ 9223372036854775807) (he : ∀ p, enc p = [.x (FnX P (F p))])
  {S : Nat → Prop} (h1 : ∀ b ∈ φ o, S b) (hF : FnsOK P S w F ps (vals β cs)) : RdV S w (.l 1 enc ps) (β o 0) := by
 obtain ⟨_, _, b, T, e1, e2, e3⟩ := R.ok o _ ho
 obtain ⟨_, hF⟩ := hF.at
 subst hn
 refine ⟨some ⟨b, 0, none⟩, ps.length, e1, Nat.le_refl _, hm, fun i p hp => ⟨rfl, h1 b (by rw [e3]; exact List.mem_singleton.2 rfl), ?_⟩⟩
 obtain ⟨u, hu, hf⟩ := hF i p hp
 refine ⟨[u], rfl, ?_, ?_⟩
 ·refine e2.has _ _ ?_
  simp only [ao, Option.getD_some, Nat.zero_add, Nat.mul_one, List.length_singleton]
  apply List.ext_getElem?
  intro j
  rw [List.getElem?_take]
  cases j with
  | zero => simpa using hu
  | succ j => simp
 ·rw [he]
  exact ⟨u, [], rfl, hf, rfl⟩
theorem Jp (R : Rel P fs β φ dom ψ IN w0 w) {o n : Nat} {cs : List AV} (ho : fs o = some (.arr n cs)) : β o 0 = sv (toSV (β o 0)) := by
 obtain ⟨_, _, b, T, e1, _⟩ := R.ok o _ ho
 rw [e1]; rfl
theorem Qzh (R : Rel P fs β φ dom ψ IN w0 w) {α : Type} [Inhabited α] {o n sz : Nat} {cs : List AV} {ys : List α} {enc : α → List Dat} (ho : fs o = some (.arr n cs)) (hn : n = ys.length) (hm : n ≤ 9223372036854775807) (hl : ∀ y, (enc y).length = sz)
  (he : (ys.map enc).flatten = (vals β cs).map .v) : OwV w (.l sz enc ys) (β o 0) (φ o) := by
 obtain ⟨_, ⟨hw, hone⟩, b, T, e1, e2, e3⟩ := R.ok o _ ho
 have h1 : OwVs w (ys.map enc).flatten (vals β cs) [] := by
  rw [he]; exact OwVs.flat (Rh R.one hone hw)
 obtain ⟨gs, g1, g2, g3, g4⟩ := h1.split (sz := sz) (fun y _ => hl y)
 subst hn
 have hlen : (vals β cs).length = ys.length * sz := g2
 refine ⟨some ⟨b, 0, none⟩, ys.length, e1, Nat.le_refl _, hm, .inr ⟨b, 0, T, vals β cs, gs, rfl, e2, by omega, g1, fun i y g hy hg => ?_, by rw [e3, ← g3], ?_⟩⟩
 ·obtain ⟨k1, k2⟩ := g4 i y g hy hg
  have hi : i < ys.length := (List.getElem?_eq_some_iff.1 hy).1
  have hfit : i * sz + sz ≤ (vals β cs).length := by
   rw [hlen]
   calc i * sz + sz = (i + 1) * sz := by rw [Nat.succ_mul]
    _ ≤ ys.length * sz := Nat.mul_le_mul_right _ hi
  refine ⟨by simp; omega, ?_⟩
  simpa using k2
 ·rw [e3]; exact (List.nodup_cons.2 ⟨List.not_mem_nil, List.nodup_nil⟩)
def Rel2 {α γ : Type} (Q : α → γ → Prop) : List α → List γ → Prop
 | [], [] => True
 | a :: azz, c :: cs => Q a c ∧ Rel2 Q azz cs
 | _, _ => False
theorem Rel2.filter {α γ : Type} {Q : α → γ → Prop} {p : α → Bool} {q : γ → Bool} (hpq : ∀ a c, Q a c → p a = q c) : ∀ {azz : List α} {cs : List γ}, Rel2 Q azz cs → Rel2 Q (azz.filter p) (cs.filter q)
 | [], [], _ => trivial
 | a :: azz, c :: cs, h => by
  have e := hpq a c h.1
  cases hp : p a with
  | true => rw [List.filter_cons_of_pos hp, List.filter_cons_of_pos (e ▸ hp)]; exact ⟨h.1, Rel2.filter hpq h.2⟩
  | false => rw [List.filter_cons_of_neg (by simp [hp]), List.filter_cons_of_neg (by simp [← e, hp])]; exact Rel2.filter hpq h.2
 | [], _ :: _, h => h.elim
 | _ :: _, [], h => h.elim
theorem Rel2.at {α γ : Type} {Q : α → γ → Prop} : ∀ {azz : List α} {cs : List γ}, Rel2 Q azz cs → azz.length = cs.length ∧ ∀ (i : Nat) (c : γ), cs[i]? = some c → ∃ a, azz[i]? = some a ∧ Q a c
 | [], [], _ => ⟨rfl, fun i c h => by simp at h⟩
 | a :: azz, c :: cs, h => by
  obtain ⟨e, k⟩ := Rel2.at h.2
  refine ⟨by simp [e], fun i x hx => ?_⟩
  cases i with
  | zero => simp only [List.getElem?_cons_zero, Option.some.injEq] at hx; subst hx; exact ⟨a, rfl, h.1⟩
  | succ i => simpa using k i x (by simpa using hx)
 | [], _ :: _, h => h.elim
 | _ :: _, [], h => h.elim
theorem Rel2.mono {α γ : Type} {Q Q' : α → γ → Prop} (hq : ∀ a c, Q a c → Q' a c) : ∀ {azz : List α} {cs : List γ}, Rel2 Q azz cs → Rel2 Q' azz cs
 | [], [], _ => trivial
 | a :: azz, c :: cs, h => ⟨hq _ _ h.1, Rel2.mono hq h.2⟩
 | [], _ :: _, h => h.elim
 | _ :: _, [], h => h.elim
theorem Qnh {α γ : Type} [Inhabited α] [Inhabited γ] {sz : Nat} {enc : α → List Dat} {enc' : γ → List Dat} {ys : List α} {zs : List γ} {v : Value} {fp : List Nat} {S : Nat → Prop} (h : OwV w (.l sz enc ys) v fp) (hS : ∀ b ∈ fp, S b)
  (hr : Rel2 (fun y z => ∀ cs, RdVs S w (enc y) cs → RdVs S w (enc' z) cs) ys zs) : RdV S w (.l sz enc' zs) v := by
 obtain ⟨a, c, e1, e2, e3, e4⟩ := RdV.mono (fun b hb => ⟨hS b hb, rfl⟩) _ _ (OwV.rd _ _ _ h)
 obtain ⟨hl, hr⟩ := hr.at
 refine ⟨a, c, by rw [← hl]; exact e1, by omega, by omega, fun i z hz => ?_⟩
 obtain ⟨y, hy, hq⟩ := hr i z hz
 obtain ⟨g1, g2, cs, g3, g4, g5⟩ := e4 i y hy
 exact ⟨g1, g2, cs, g3, g4, hq cs g5⟩
end
theorem fsG1 {a : Fact} {X : Nat} {f : Fact} (h : fsG [(0, some a)] X = some f) : X = 0 ∧ f = a := by
 simp only [fsG] at h
 cases hb : Nat.beq 0 X with
 | true => rw [hb] at h; cases h; exact ⟨(Nat.eq_of_beq_eq_true hb).symm, rfl⟩
 | false => rw [hb] at h; cases h
theorem fsG3 {a b c : Fact} {X : Nat} {f : Fact} (h : fsG [(0, some a), (1, some b), (2, some c)] X = some f) : (X = 0 ∧ f = a) ∨ (X = 1 ∧ f = b) ∨ (X = 2 ∧ f = c) := by
 simp only [fsG] at h
 cases h0 : Nat.beq 0 X with
 | true => rw [h0] at h; cases h; exact .inl ⟨(Nat.eq_of_beq_eq_true h0).symm, rfl⟩
 | false =>
  rw [h0] at h
  cases h1 : Nat.beq 1 X with
  | true => rw [h1] at h; cases h; exact .inr (.inl ⟨(Nat.eq_of_beq_eq_true h1).symm, rfl⟩)
  | false =>
   rw [h1] at h
   cases h2 : Nat.beq 2 X with
   | true => rw [h2] at h; cases h; exact .inr (.inr ⟨(Nat.eq_of_beq_eq_true h2).symm, rfl⟩)
   | false => rw [h2] at h; cases h
section
variable {P : Program} {N : Nat} {ψ IN : Nat → Prop} {w0 w : World} {a : Act}
theorem pack3 {s : St} {T : TypeId} {bx : List Value} {α : Type} [Inhabited α] {sz : Nat} {enc : α → List Dat} {ys : List α} {X : FX} {rest : List Nat} {β : Nat → Nat → Value} {φ : Nat → List Nat} {dom : Nat → Prop} (V : StOK P N ψ IN w0 s a w β φ dom)
  (h0 : fsG s.fs 0 = some (.box T (bx.map .v))) (h1 : ∃ g, fsG s.fs 1 = some g ∧ g.mod = true) (hr : Qia (fsG s.fs) rest = true) (hnd : Kp (0 :: 1 :: rest) = true) (hd2 : dom 2)
  (ho : OwV w (.l sz enc ys) (β 1 0) (φ 1)) (hx : (rest.flatMap φ).Nodup → (∀ b ∈ rest.flatMap φ, b < w.heap.size) → X.ow w (β 2 0) (rest.flatMap φ)) :
  Yp P N ψ IN w0 ⟨s.sl, [(0, some (.box T (bx.map .v))), (1, some (.own 1 (.l sz enc ys))), (2, some (.own 2 (.x X)))], s.nx⟩ a w := by
 have R := V.rel
 have hnn := Kw hnd
 have hm := Qcm hr
 obtain ⟨n1, n2⟩ := List.nodup_cons.1 hnn
 obtain ⟨n3, n4⟩ := List.nodup_cons.1 n2
 obtain ⟨g1, h1, h1m⟩ := h1
 refine ⟨β, fun X => if X = 2 then rest.flatMap φ else φ X, dom, V.size, V.defers, V.has, ?_, V.bound⟩
 refine R.pack (fun X => if X = 2 then rest else [X]) (fun Y f hY => ?_) (fun Y f hY hmod b hb => ?_) (fun Y Y' hne hY hY' Z hZ hZ' => ?_)
 ·rcases fsG3 hY with ⟨rfl, rfl⟩ | ⟨rfl, rfl⟩ | ⟨rfl, rfl⟩
  ·exact ⟨(R.ok 0 _ h0).1, (R.ok 0 _ h0).2⟩
  ·exact ⟨(R.ok 1 _ h1).1, (R.ok 1 _ h1).1, ho⟩
  ·exact ⟨hd2, hd2, by simp only [if_true]; exact hx (R.flat_nd n4 hm) (R.flat_lt hm)⟩
 ·rcases fsG3 hY with ⟨rfl, rfl⟩ | ⟨rfl, rfl⟩ | ⟨rfl, rfl⟩
  ·exact ⟨0, List.mem_singleton.2 rfl, ⟨_, h0, rfl⟩, hb⟩
  ·exact ⟨1, List.mem_singleton.2 rfl, ⟨_, h1, h1m⟩, hb⟩
  ·simp only [if_true] at hb ⊢
   obtain ⟨Z, k1, k2⟩ := List.mem_flatMap.1 hb
   exact ⟨Z, k1, hm Z k1, k2⟩
 ·obtain ⟨f, hf⟩ := hY
  obtain ⟨f', hf'⟩ := hY'
  have n1' : (0 : Nat) ∉ rest := fun h => n1 (List.mem_cons_of_mem _ h)
  rcases fsG3 hf with ⟨rfl, _⟩ | ⟨rfl, _⟩ | ⟨rfl, _⟩ <;> rcases fsG3 hf' with ⟨rfl, _⟩ | ⟨rfl, _⟩ | ⟨rfl, _⟩ <;> simp only [if_true, if_neg (show ¬ (0 : Nat) = 2 by decide), if_neg (show ¬ (1 : Nat) = 2 by decide), List.mem_singleton] at hZ hZ'
  all_goals first | exact hne rfl | (subst hZ; exact n1' hZ') | (subst hZ; exact n3 hZ') | (subst hZ'; exact n1' hZ) | (subst hZ'; exact n3 hZ) | (subst hZ; cases hZ')
theorem pack1 {s : St} {t : Nat} {d : Dat} {X : FX} {e : Dat} {nx : Nat} (hfs : s.fs = [(0, some (.own 0 d)), (1, some (.own 1 (.x X)))]) (hnx : s.nx = nx) (hsl : slG s.sl t = some (.h 0 0))
  (hr : ∀ (v y : Value) (f g : List Nat), OwV w d v f → X.ow w y g → RdV (fun b => b ∈ f ++ g) w e v) (H : Yp P N ψ IN w0 s a w) :
  Yp P N ψ IN w0 ⟨[(t, some (.h 0 0))], [(0, some (.own 0 (.b e)))], nx⟩ a w := by
 obtain ⟨β, φ, dom, V⟩ := H
 have R := V.rel
 have h0 : fsG s.fs 0 = some (.own 0 d) := by rw [hfs]; rfl
 have h1 : fsG s.fs 1 = some (.own 1 (.x X)) := by rw [hfs]; rfl
 obtain ⟨k1, _, k2⟩ := R.ok 0 _ h0
 obtain ⟨q1, _, q2⟩ := R.ok 1 _ h1
 have hm : ∀ id ∈ [0, 1], ∃ g, fsG s.fs id = some g ∧ g.mod = true := fun id hid => by
  rcases List.mem_cons.1 hid with rfl | hid
  ·exact ⟨_, h0, rfl⟩
  ·obtain rfl := List.mem_singleton.1 hid; exact ⟨_, h1, rfl⟩
 have hfm : [0, 1].flatMap φ = φ 0 ++ φ 1 := by simp
 have hnd := R.flat_nd (ids := [0, 1]) (by decide) hm
 have hlt := R.flat_lt (ids := [0, 1]) hm
 rw [hfm] at hnd hlt
 refine ⟨β, fun X => if X = 0 then φ 0 ++ φ 1 else φ X, dom, V.size, V.defers, fun t' av ht => ?_, ?_, fun id hid => hnx ▸ V.bound id hid⟩
 ·simp only [slG] at ht
  cases hb : Nat.beq t t' with
  | true =>
   rw [hb] at ht
   cases ht
   have e := Nat.eq_of_beq_eq_true hb
   subst e
   exact V.has t _ hsl
  | false => rw [hb] at ht; cases ht
 ·refine R.pack (fun X => if X = 0 then [0, 1] else [X]) (fun Y f hY => ?_) (fun Y f hY hmod b hb => ?_) (fun Y Y' hne hY hY' Z hZ hZ' => ?_)
  ·obtain ⟨rfl, rfl⟩ := fsG1 hY
   exact ⟨k1, k1, by simp only [if_true]; exact ⟨hr _ _ _ _ k2 q2, hnd, hlt⟩⟩
  ·obtain ⟨rfl, rfl⟩ := fsG1 hY
   simp only [if_true] at hb ⊢
   rcases List.mem_append.1 hb with hb | hb
   ·exact ⟨0, by simp, hm 0 (by simp), hb⟩
   ·exact ⟨1, by simp, hm 1 (by simp), hb⟩
  ·obtain ⟨f, hf⟩ := hY
   obtain ⟨f', hf'⟩ := hY'
   exact hne ((fsG1 hf).1.trans (fsG1 hf').1.symm)
end
theorem ifb (c : Bool) {A B : Prop} (a : c = true → A) (b : c = false → B) : (c = true → A) ∧ (c = false → B) := ⟨a, b⟩
theorem ifd (p : Prop) [Decidable p] {A B : Prop} (a : decide p = true → p → A) (b : decide p = false → ¬ p → B) : (decide p = true → A) ∧ (decide p = false → B) :=
 ⟨fun h => a h (of_decide_eq_true h), fun h => b h (of_decide_eq_false h)⟩
theorem ife (x y : Int) {A B : Prop} (a : (x == y) = true → x = y → A) (b : (x == y) = false → ¬ x = y → B) : ((x == y) = true → A) ∧ ((x == y) = false → B) :=
 ⟨fun h => a h (eq_of_beq h), fun h => b h (beqF h)⟩
theorem ifn (x y : Int) {A B : Prop} (a : (x != y) = true → ¬ x = y → A) (b : (x != y) = false → x = y → B) : ((x != y) = true → A) ∧ ((x != y) = false → B) :=
 ⟨fun h => a h (bneT h), fun h => b h (bneF h)⟩
theorem kn {α : Type} (xs : List α) {K : Prop} (k : xs.length ≤ 9223372036854775807 → K) : xs.length ≤ 9223372036854775807 → K := k
abbrev ib (k : Int) {α : Type} (l : List α) : Prop := 0 ≤ k ∧ k < (l.length : Int)
theorem fiB (r c : Bool) (h : r = c) : (.bool r : Value) = .bool c ∧ True := ⟨h ▸ rfl, trivial⟩
theorem fiS (r c : ByteArray) (h : r = c) : (.string r : Value) = .string c ∧ True := ⟨h ▸ rfl, trivial⟩
theorem fiI (r c : Int) (h : r = c) : (.int .i64 r : Value) = .int .i64 c ∧ True := ⟨h ▸ rfl, trivial⟩
abbrev Rf (x : Value) : Prop := x = x
abbrev Im (x : Dat) : Prop := Imp x x
abbrev Ims (x : List Dat) : Prop := Imps x x
abbrev LpX {σ ρ : Type} (step : σ → Lp σ ρ) (N : Nat × σ) : Lp σ ρ := runL step N.1 N.2
abbrev LpJ {σ ρ : Type} (step : σ → Lp σ ρ) (N i : Nat × σ) (I : Prop) : Prop := runL step i.1 i.2 = runL step N.1 N.2 ∧ I
abbrev LpH {σ ρ : Type} (step : σ → Lp σ ρ) (N i : Nat × σ) (m : Nat) (v : σ) (I : Prop) : Prop := runL step (m + 1) v = runL step N.1 N.2 ∧ m < i.1 ∧ I
theorem iok (x : Int) (h : -9223372036854775808 ≤ x ∧ x ≤ 9223372036854775807) : i64ok x := h
theorem bokr {α : Type} [Inhabited α] (sz : Nat) (enc : α → List Dat) (ys : List α) (hl : ∀ y, (enc y).length = sz) : BuildOK ys.length sz (ys.map enc).flatten (.l sz enc ys) := BuildOK.mk enc ys rfl (Imps.refl _) hl
theorem appr {α : Type} [Inhabited α] (sz : Nat) (enc : α → List Dat) (xs ys : List α) (hl : ∀ y, (enc y).length = sz) : AppA (.l sz enc xs) ys.length sz (ys.map enc).flatten (.l sz enc (xs ++ ys)) := AppA.mk enc xs ys (Imp.refl _) rfl (Imps.refl _) hl
theorem setr {α : Type} [Inhabited α] (sz : Nat) (enc : α → List Dat) (xs : List α) (k : Nat) (x : α) : SetOK (.l sz enc xs) k (enc (xs.getD k default)) (enc x) (.l sz enc (xs.set k x)) := SetOK.mk enc xs x rfl (Imps.refl _)
def datV : Dat → Value
 | .v x => x
 | _ => default
def Plain {α : Type} (k : Nat) (e : α → List Dat) : Prop := ∀ x, (e x).length = k ∧ ∀ d ∈ e x, ∃ v, d = .v v ∧ v.oneCell' = true
def encV {α : Type} (e : α → List Dat) (x : α) : List Value := (e x).map datV
theorem Plain.len {α : Type} {k : Nat} {e : α → List Dat} (h : Plain k e) (x : α) : (encV e x).length = k := by rw [encV, List.length_map, (h x).1]
theorem Plain.one {α : Type} {k : Nat} {e : α → List Dat} (h : Plain k e) (x : α) : ∀ v ∈ encV e x, v.oneCell' = true := fun v hv => by
 obtain ⟨d, hd, rfl⟩ := List.mem_map.1 hv
 obtain ⟨v, rfl, h1⟩ := (h x).2 d hd
 exact h1
end Go.Proofs.YtmoodkjkecjeaabGreatDoor
namespace Go.Proofs.YtmoodkjkecjeaabGreatDoor
open Go.RowKit Go.Shelf
set_option linter.unusedVariables false
set_option linter.unusedSimpArgs false
section
variable {P : Program} {ρ : Go.Shelf.Ren}
theorem Qny (SS : Nat → Prop) (w : World) (n : Nat) : Chg SS w (w.drewN n) := ⟨rfl, rfl, rfl, Nat.le_refl _, fun _ _ _ => rfl, Nat.le_add_right _ _⟩
theorem Qoe (SS : Nat → Prop) (w : World) (o : Obj) : Chg SS w (w.alloc o) := Chg.of_below (Qbg w o)
def cut3 (s sep : ByteArray) : ByteArray × ByteArray × Bool := (⟨(Lib.cut s.data.toList sep.data.toList).1.toArray⟩, ⟨(Lib.cut s.data.toList sep.data.toList).2.1.toArray⟩, (Lib.cut s.data.toList sep.data.toList).2.2)
theorem cut_ok (L : Lays.n145 P ρ) (hg : ρ.g 1 ∈ GBi) (s sep : ByteArray) : Spec.ok P (ρ.f 145) ⟨[.r (.c (.v (.string s))), .r (.c (.v (.string sep)))], .tu [.v (.string (cut3 s sep).1), .v (.string (cut3 s sep).2.1), .v (.bool (cut3 s sep).2.2)], s.size ≤ 4294967280⟩ := by
 intro hs S w vs fp hS hG hA
 obtain ⟨u, us, f, g, rfl, ⟨⟨rfl, _⟩, rfl⟩, ⟨u2, us2, f2, g2, rfl, ⟨⟨rfl, _⟩, rfl⟩, ⟨rfl, rfl⟩, rfl, _⟩, rfl, _⟩ := hA
 obtain ⟨m, hm⟩ := hG.1.2.1 _ hg
 have hs : s.size ≤ 4294967280 := hs
 refine (Any.strings_Cut L s sep m w (by omega) hm).mono fun e w' ⟨h1, n, h2⟩ => ?_
 subst h2
 exact ⟨_, [], [], h1, ⟨[_, _, _], rfl, _, _, [], [], rfl, ⟨rfl, rfl, rfl⟩, ⟨_, _, [], [], rfl, ⟨rfl, rfl, rfl⟩, ⟨_, _, [], [], rfl, ⟨rfl, rfl, rfl⟩, ⟨rfl, rfl⟩, rfl⟩, rfl⟩, rfl⟩,
  ⟨_, _, [], [], rfl, rfl, ⟨_, _, [], [], rfl, rfl, rfl, rfl⟩, rfl⟩, List.nodup_nil, fun b hb => by simp at hb, Qny _ w n⟩
def Qw (s sep : ByteArray) : List ByteArray := Lib.splitB sep 0 (Lib.countB s sep) s
theorem Qme (w : World) : ∀ ys : List ByteArray, OwVs w (ys.map eStr).flatten (ys.map Value.string) []
 | [] => ⟨rfl, rfl⟩
 | y :: ys => ⟨.string y, ys.map Value.string, [], [], rfl, ⟨rfl, rfl, rfl⟩, Qme w ys, rfl, List.nodup_nil⟩
theorem Gh (s sep : ByteArray) (h1 : 1 ≤ sep.size) : (Qw s sep).length = Lib.countB s sep + 1 := Lib.splitB_all sep h1 0 _ s rfl
theorem Qww (L : Lays.n146 P ρ) (hi9 : (P.info? (ρ.t 9)).map (fun i => (i.zero, i.size, i.bytes)) = some (some (.string ByteArray.empty), 1, 16)) (hg : ρ.g 1 ∈ GBi) (s sep : ByteArray) :
  Spec.ok P (ρ.f 146) ⟨[.r (.c (.v (.string s))), .r (.c (.v (.string sep)))], .ow (.l 1 eStr (Qw s sep)), s.size ≤ 4294967280 ∧ 1 ≤ sep.size⟩ := by
 intro ⟨hs, h1⟩ S w vs fp hS hG hA
 obtain ⟨u, us, f, g, rfl, ⟨⟨rfl, _⟩, rfl⟩, ⟨u2, us2, f2, g2, rfl, ⟨⟨rfl, _⟩, rfl⟩, ⟨rfl, rfl⟩, rfl, _⟩, rfl, _⟩ := hA
 obtain ⟨m, hm⟩ := hG.1.2.1 _ hg
 have hle := Lib.countB_le sep h1 s.size s (Nat.le_refl _)
 have hlen := Gh s sep h1
 refine (Any.strings_Split L hi9 s sep m w (by omega) hm h1).mono fun e w' ⟨h2, h3⟩ => ?_
 subst h3
 refine ⟨_, [w.heap.size], [], h2, ?_, ⟨_, _, [], [], rfl, rfl, ⟨_, _, [], [], rfl, rfl, rfl, rfl⟩, rfl⟩, by simp, fun b hb => ?_, (Qoe _ w _).toD _⟩
 ·rw [← hlen]
  refine Hp (ys := Qw s sep) (vs := (Qw s sep).map Value.string) (rest := []) (c := (Qw s sep).length) (T := ρ.t 9) (Qme _ _) (fun y _ => rfl) (Qbg w _) (by simp) ?_ (by simp) (Nat.le_refl _) (by omega)
  simp only [List.append_nil]
  exact heap_alloc_new w _
 ·have hb : b = w.heap.size := by simpa using hb
  subst hb
  exact ⟨by simp, .inr (Nat.le_refl _)⟩
theorem Qja (s sep : ByteArray) (h1 : 1 ≤ sep.size) : 1 ≤ (Qw s sep).length := (Gh s sep h1).symm ▸ Nat.le_add_left 1 _
theorem Qnx (s sep : ByteArray) (h1 : 1 ≤ sep.size) : (Qw s sep).length ≤ s.size + 1 := by
 rw [Gh s sep h1]
 have := Lib.countB_le sep h1 s.size s (Nat.le_refl _)
 omega
theorem Pz (s sep : ByteArray) : ((cut3 s sep).1.size : Int) ≤ (s.size : Int) := by
 have : (cut3 s sep).1.size ≤ s.size := by
  show (Lib.cut s.data.toList sep.data.toList).1.toArray.size ≤ s.data.size
  unfold Lib.cut
  split
  ·simp only [List.size_toArray, List.length_take, List.length_drop]
   have : s.data.toList.length = s.data.size := by simp
   omega
  ·simp
 omega
theorem Qro (s sep : ByteArray) : ((cut3 s sep).2.1.size : Int) ≤ (s.size : Int) := by
 have : (cut3 s sep).2.1.size ≤ s.size := by
  show (Lib.cut s.data.toList sep.data.toList).2.1.toArray.size ≤ s.data.size
  unfold Lib.cut
  split
  ·simp only [List.size_toArray, List.length_take, List.length_drop]
   have : s.data.toList.length = s.data.size := by simp
   omega
  ·simp
 omega
def Ym (xs : List ByteArray) (sep : ByteArray) : ByteArray := ⟨(Lib.join (xs.map (·.data.toList)) sep.data.toList).toArray⟩
theorem Qxl (L : Lays.n156 P ρ) (X : Builder.Extra P ρ) (xs : List ByteArray) (sep : ByteArray) :
  Spec.ok P (ρ.f 156) ⟨[.r (.c (.l 1 eStr xs)), .r (.c (.v (.string sep)))], .v (.string (Ym xs sep)), xs.length ≤ 140737488355328 ∧ (Ym xs sep).size ≤ 140737488355328⟩ false := by
 intro ⟨hl, hj⟩ S w vs fp hS hG hA
 obtain ⟨u, us, f, g, rfl, ⟨⟨a, c, rfl, hc, h63, hx⟩, rfl⟩, ⟨u2, us2, f2, g2, rfl, ⟨⟨rfl, _⟩, rfl⟩, ⟨rfl, rfl⟩, rfl, _⟩, rfl, _⟩ := hA
 have fin : ∀ (e : Ending) (w' : World), e = .returned (.string (Ym xs sep)) → Below w.heap.size w w' → ∃ rv fr fb, e = .returned rv ∧ RTOK w' (.v (.string (Ym xs sep))) rv fr ∧ Lh w' [.r (.c (.l 1 eStr xs)), .r (.c (.v (.string sep)))] [.slice a xs.length c, .string sep] fb ∧ (fr ++ fb).Nodup ∧ (∀ b ∈ fr ++ fb, b < w'.heap.size ∧ (b ∈ ([] ++ ([] ++ []) : List Nat) ∨ w.heap.size ≤ b)) ∧ Chg (· ∈ ([] ++ ([] ++ []) : List Nat)) (atD false w) w' :=
  fun e w' h1 h2 => ⟨_, [], [], h1, ⟨rfl, rfl, rfl⟩, ⟨_, _, [], [], rfl, rfl, ⟨_, _, [], [], rfl, rfl, rfl, rfl⟩, rfl⟩, List.nodup_nil, fun b hb => by simp at hb, ⟨h2.os, h2.tape, h2.output, h2.size, fun k hk _ => h2.block k hk, Nat.zero_le _⟩⟩
 cases xs with
 | nil =>
  refine (Any.strings_Join_none L X a c sep w).mono fun e w' ⟨h1, h2⟩ => fin e w' ?_ (h2 ▸ Below.refl _ _)
  rw [h1]; rfl
 | cons x xs =>
  obtain ⟨ha, hSb, _⟩ := hx 0 x rfl
  rw [ha]
  refine (Any.strings_Join L X (ab a) (ao a) c (x :: xs) sep w (fun j y hy => ?_) (hS _ hSb).1 hl hc (by simpa [Ym, ByteArray.size] using hj)).mono fun e w' ⟨h1, h2⟩ => ?_
  ·obtain ⟨_, _, cs, h1, h2, h3⟩ := hx j y hy
   obtain ⟨u, us, rfl, ⟨rfl, _⟩, _⟩ := h3
   have := h2 0 _ rfl
   simpa using this
  ·have := fin e w' h1 h2
   rw [ha] at this
   exact this
open Go.Sort in
end
end Go.Proofs.YtmoodkjkecjeaabGreatDoor
namespace Go.Proofs.YtmoodkjkecjeaabGreatDoor
open Go.Shelf Go.RowKit
def Qdb : Go.Shelf.Ren := ⟨fun | 146 => 62 | 221 => 73 | 268 => 87 | 138 => 88 | 143 => 89 | 195 => 106 | 197 => 107 | 218 => 108 | 219 => 100 | 260 => 129 | 217 => 116 | 225 => 117 | 224 => 118 | 267 => 119 | 266 => 131 | 314 => 132 | n => n, fun | 9 => 9 | 31 => 22 | 3 => 3 | 4 => 4 | 0 => 0 | 105 => 104 | 21 => 21 | 5 => 5 | 46 => 111 | 119 => 134 | 139 => 137 | 138 => 136 | 146 => 120 | 51 => 119 | n => n, fun | 1 => 0 | 3 => 3 | 4 => 4 | n => n⟩
theorem Qvy : Go.Proofs.Lays.n146 Tryz.prog Qdb := {
 mixed := by kernel_rfl
 f138 := Tryz.func88.trans (congrArg some (by kernel_rfl))
 f143 := Tryz.func89.trans (congrArg some (by kernel_rfl))
 f146 := Tryz.func62.trans (congrArg some (by kernel_rfl))
 f195 := Tryz.func106.trans (congrArg some (by kernel_rfl))
 f197 := Tryz.func107.trans (congrArg some (by kernel_rfl))
 f217 := Tryz.func116.trans (congrArg some (by kernel_rfl))
 f218 := Tryz.func108.trans (congrArg some (by kernel_rfl))
 f219 := Tryz.func100.trans (congrArg some (by kernel_rfl))
 f221 := Tryz.func73.trans (congrArg some (by kernel_rfl))
 f224 := Tryz.func118.trans (congrArg some (by kernel_rfl))
 f225 := Tryz.func117.trans (congrArg some (by kernel_rfl))
 f260 := Tryz.func129.trans (congrArg some (by kernel_rfl))
 f266 := Tryz.func131.trans (congrArg some (by kernel_rfl))
 f267 := Tryz.func119.trans (congrArg some (by kernel_rfl))
 f268 := Tryz.func87.trans (congrArg some (by kernel_rfl))
 f314 := Tryz.func132.trans (congrArg some (by kernel_rfl))
 t0 := Tryz.underlying0
 a0 := Tryz.isAgg0
 z0 := Tryz.sizeOf0
 v0 := Tryz.zeroValue0
 t3 := Tryz.underlying3
 a3 := Tryz.isAgg3
 z3 := Tryz.sizeOf3
 v3 := Tryz.zeroValue3
 t4 := Tryz.underlying4
 a4 := Tryz.isAgg4
 z4 := Tryz.sizeOf4
 v4 := Tryz.zeroValue4
 t5 := Tryz.underlying5
 a5 := Tryz.isAgg5
 z5 := Tryz.sizeOf5
 v5 := Tryz.zeroValue5
 t9 := Tryz.underlying9
 a9 := Tryz.isAgg9
 z9 := Tryz.sizeOf9
 v9 := Tryz.zeroValue9
 t21 := Tryz.underlying21
 a21 := Tryz.isAgg21
 z21 := Tryz.sizeOf21
 v21 := Tryz.zeroValue21
 t31 := Tryz.underlying22
 a31 := Tryz.isAgg22
 z31 := Tryz.sizeOf22
 v31 := Tryz.zeroValue22
 t46 := Tryz.underlying111
 a46 := Tryz.isAgg111
 z46 := Tryz.sizeOf111
 v46 := Tryz.zeroValue111
 t51 := Tryz.underlying119
 a51 := Tryz.isAgg119
 z51 := Tryz.sizeOf119
 v51 := Tryz.zeroValue119
 t105 := Tryz.underlying104
 a105 := Tryz.isAgg104
 z105 := Tryz.sizeOf104
 v105 := Tryz.zeroValue104
 t119 := Tryz.underlying134
 a119 := Tryz.isAgg134
 z119 := Tryz.sizeOf134
 t138 := Tryz.underlying136
 a138 := Tryz.isAgg136
 z138 := Tryz.sizeOf136
 v138 := Tryz.zeroValue136
 t139 := Tryz.underlying137
 a139 := Tryz.isAgg137
 z139 := Tryz.sizeOf137
 v139 := Tryz.zeroValue137
 t146 := Tryz.underlying120
 a146 := Tryz.isAgg120
 z146 := Tryz.sizeOf120
 v146 := Tryz.zeroValue120
 g1 := by kernel_rfl
 g3 := by kernel_rfl
 g4 := by kernel_rfl }
def Mq : Go.Shelf.Ren := ⟨fun | 156 => 64 | 165 => 76 | 166 => 77 | 169 => 78 | 240 => 98 | 241 => 99 | 276 => 114 | 277 => 115 | n => n, fun | 31 => 22 | 9 => 9 | 3 => 3 | 4 => 4 | 0 => 0 | 20 => 20 | 72 => 88 | 76 => 92 | 70 => 86 | 37 => 64 | 75 => 91 | 127 => 102 | 164 => 108 | 5 => 5 | 80 => 94 | n => n, fun | n => n⟩
theorem Qzd : Go.Proofs.Lays.n156 Tryz.prog Mq := {
 mixed := by kernel_rfl
 f156 := Tryz.func64.trans (congrArg some (by kernel_rfl))
 f165 := Tryz.func76.trans (congrArg some (by kernel_rfl))
 f166 := Tryz.func77.trans (congrArg some (by kernel_rfl))
 f169 := Tryz.func78.trans (congrArg some (by kernel_rfl))
 f240 := Tryz.func98.trans (congrArg some (by kernel_rfl))
 f241 := Tryz.func99.trans (congrArg some (by kernel_rfl))
 f276 := Tryz.func114.trans (congrArg some (by kernel_rfl))
 f277 := Tryz.func115.trans (congrArg some (by kernel_rfl))
 t0 := Tryz.underlying0
 a0 := Tryz.isAgg0
 z0 := Tryz.sizeOf0
 v0 := Tryz.zeroValue0
 t3 := Tryz.underlying3
 a3 := Tryz.isAgg3
 z3 := Tryz.sizeOf3
 v3 := Tryz.zeroValue3
 t4 := Tryz.underlying4
 a4 := Tryz.isAgg4
 z4 := Tryz.sizeOf4
 v4 := Tryz.zeroValue4
 t9 := Tryz.underlying9
 a9 := Tryz.isAgg9
 z9 := Tryz.sizeOf9
 v9 := Tryz.zeroValue9
 t20 := Tryz.underlying20
 a20 := Tryz.isAgg20
 z20 := Tryz.sizeOf20
 v20 := Tryz.zeroValue20
 t31 := Tryz.underlying22
 a31 := Tryz.isAgg22
 z31 := Tryz.sizeOf22
 v31 := Tryz.zeroValue22
 t37 := Tryz.underlying64
 a37 := Tryz.isAgg64
 z37 := Tryz.sizeOf64
 v37 := Tryz.zeroValue64
 t70 := Tryz.underlying86
 a70 := Tryz.isAgg86
 z70 := Tryz.sizeOf86
 v70 := Tryz.zeroValue86
 t72 := Tryz.underlying88
 a72 := Tryz.isAgg88
 z72 := Tryz.sizeOf88
 v72 := Tryz.zeroValue88
 t75 := Tryz.underlying91
 a75 := Tryz.isAgg91
 z75 := Tryz.sizeOf91
 v75 := Tryz.zeroValue91
 t76 := Tryz.underlying92
 a76 := Tryz.isAgg92
 z76 := Tryz.sizeOf92
 v76 := Tryz.zeroValue92
 t127 := Tryz.underlying102
 a127 := Tryz.isAgg102
 z127 := Tryz.sizeOf102
 v127 := Tryz.zeroValue102
 t164 := Tryz.underlying108
 a164 := Tryz.isAgg108
 z164 := Tryz.sizeOf108
 v164 := Tryz.zeroValue108 }
def Qka : Go.Shelf.Ren := ⟨fun | 145 => 66 | 220 => 79 | 219 => 100 | 217 => 116 | 225 => 117 | 224 => 118 | 267 => 119 | 266 => 131 | 314 => 132 | n => n, fun | 9 => 9 | 4 => 4 | 59 => 79 | 3 => 3 | 5 => 5 | 46 => 111 | 146 => 120 | 51 => 119 | n => n, fun | 1 => 0 | n => n⟩
theorem layCut : Go.Proofs.Lays.n145 Tryz.prog Qka := {
 mixed := by kernel_rfl
 f145 := Tryz.func66.trans (congrArg some (by kernel_rfl))
 f217 := Tryz.func116.trans (congrArg some (by kernel_rfl))
 f219 := Tryz.func100.trans (congrArg some (by kernel_rfl))
 f220 := Tryz.func79.trans (congrArg some (by kernel_rfl))
 f224 := Tryz.func118.trans (congrArg some (by kernel_rfl))
 f225 := Tryz.func117.trans (congrArg some (by kernel_rfl))
 f266 := Tryz.func131.trans (congrArg some (by kernel_rfl))
 f267 := Tryz.func119.trans (congrArg some (by kernel_rfl))
 f314 := Tryz.func132.trans (congrArg some (by kernel_rfl))
 t3 := Tryz.underlying3
 a3 := Tryz.isAgg3
 z3 := Tryz.sizeOf3
 v3 := Tryz.zeroValue3
 t4 := Tryz.underlying4
 a4 := Tryz.isAgg4
 z4 := Tryz.sizeOf4
 v4 := Tryz.zeroValue4
 t5 := Tryz.underlying5
 a5 := Tryz.isAgg5
 z5 := Tryz.sizeOf5
 v5 := Tryz.zeroValue5
 t9 := Tryz.underlying9
 a9 := Tryz.isAgg9
 z9 := Tryz.sizeOf9
 v9 := Tryz.zeroValue9
 t46 := Tryz.underlying111
 a46 := Tryz.isAgg111
 z46 := Tryz.sizeOf111
 v46 := Tryz.zeroValue111
 t51 := Tryz.underlying119
 a51 := Tryz.isAgg119
 z51 := Tryz.sizeOf119
 v51 := Tryz.zeroValue119
 t59 := Tryz.underlying79
 a59 := Tryz.isAgg79
 z59 := Tryz.sizeOf79
 v59 := Tryz.zeroValue79
 t146 := Tryz.underlying120
 a146 := Tryz.isAgg120
 z146 := Tryz.sizeOf120
 v146 := Tryz.zeroValue120
 g1 := by kernel_rfl }
def Qgm : Go.Shelf.Ren := ⟨fun | 145 => 66 | 220 => 79 | 219 => 100 | 217 => 116 | 225 => 117 | 224 => 118 | 267 => 119 | 266 => 131 | 314 => 132 | n => n, fun | 9 => 9 | 4 => 4 | 59 => 79 | 3 => 3 | 5 => 5 | 46 => 111 | 146 => 120 | 51 => 119 | n => n, fun | 1 => 0 | n => n⟩
theorem layCutM : Go.Proofs.LaysM.n145 Tryz.prog Qgm := {
 mixed := by kernel_rfl
 f145 := Tryz.func66.trans (congrArg some (by kernel_rfl))
 f217 := Tryz.func116.trans (congrArg some (by kernel_rfl))
 f219 := Tryz.func100.trans (congrArg some (by kernel_rfl))
 f220 := Tryz.func79.trans (congrArg some (by kernel_rfl))
 f224 := Tryz.func118.trans (congrArg some (by kernel_rfl))
 f225 := Tryz.func117.trans (congrArg some (by kernel_rfl))
 f266 := Tryz.func131.trans (congrArg some (by kernel_rfl))
 f267 := Tryz.func119.trans (congrArg some (by kernel_rfl))
 f314 := Tryz.func132.trans (congrArg some (by kernel_rfl))
 t3 := Tryz.underlying3
 a3 := Tryz.isAgg3
 z3 := Tryz.sizeOf3
 v3 := Tryz.zeroValue3
 t4 := Tryz.underlying4
 a4 := Tryz.isAgg4
 z4 := Tryz.sizeOf4
 v4 := Tryz.zeroValue4
 t5 := Tryz.underlying5
 a5 := Tryz.isAgg5
 z5 := Tryz.sizeOf5
 v5 := Tryz.zeroValue5
 t9 := Tryz.underlying9
 a9 := Tryz.isAgg9
 z9 := Tryz.sizeOf9
 v9 := Tryz.zeroValue9
 t46 := Tryz.underlying111
 a46 := Tryz.isAgg111
 z46 := Tryz.sizeOf111
 v46 := Tryz.zeroValue111
 t51 := Tryz.underlying119
 a51 := Tryz.isAgg119
 z51 := Tryz.sizeOf119
 v51 := Tryz.zeroValue119
 t59 := Tryz.underlying79
 a59 := Tryz.isAgg79
 z59 := Tryz.sizeOf79
 v59 := Tryz.zeroValue79
 t146 := Tryz.underlying120
 a146 := Tryz.isAgg120
 z146 := Tryz.sizeOf120
 v146 := Tryz.zeroValue120
 g1 := by kernel_rfl
 i3 := by kernel_rfl
 i4 := by kernel_rfl
 i5 := by kernel_rfl
 i9 := by kernel_rfl
 i46 := by kernel_rfl
 i51 := by kernel_rfl
 i59 := by kernel_rfl
 i146 := by kernel_rfl
 m1 := by kernel_rfl
 s1_3 := fun w h => Go.Proofs.cell_of_shapedOpen_int (zero := #[.int .i64 0]) (t := 3) h (of_decide_eq_true (by kernel_rfl)) (by kernel_rfl) rfl (by kernel_rfl) (by kernel_rfl) Tryz.underlying3 }
def layAtoi_ren : Go.Shelf.Ren := ⟨fun | 172 => 80 | 244 => 101 | 245 => 102 | 247 => 120 | 279 => 121 | 280 => 122 | 281 => 123 | 282 => 124 | 287 => 133 | 316 => 134 | 171 => 81 | 205 => 135 | 321 => 141 | 322 => 142 | 243 => 103 | 246 => 125 | 283 => 136 | 284 => 137 | 285 => 138 | 286 => 139 | 129 => 144 | 317 => 143 | 318 => 145 | 319 => 146 | 320 => 147 | 337 => 148 | 338 => 149 | n => n, fun | 9 => 9 | 3 => 3 | 75 => 91 | 76 => 92 | 4 => 4 | 5 => 5 | 167 => 112 | 37 => 64 | 0 => 0 | 85 => 113 | 2 => 2 | 168 => 115 | 53 => 122 | 175 => 123 | 46 => 111 | 210 => 126 | 127 => 102 | 145 => 141 | 143 => 139 | 21 => 21 | 171 => 128 | 173 => 131 | 212 => 143 | 51 => 119 | 20 => 20 | 213 => 144 | 232 => 147 | 233 => 148 | 80 => 94 | n => n, fun | 15 => 1 | 16 => 2 | 17 => 5 | 18 => 6 | 19 => 7 | n => n⟩
theorem Qeg : Go.Proofs.LaysC.n172 Tryz.prog layAtoi_ren := {
 mixed := by kernel_rfl
 f129 := Tryz.func144.trans (congrArg some (by kernel_rfl))
 f171 := Tryz.func81.trans (congrArg some (by kernel_rfl))
 f172 := Tryz.func80.trans (congrArg some (by kernel_rfl))
 f205 := Tryz.func135.trans (congrArg some (by kernel_rfl))
 f243 := Tryz.func103.trans (congrArg some (by kernel_rfl))
 f244 := Tryz.func101.trans (congrArg some (by kernel_rfl))
 f245 := Tryz.func102.trans (congrArg some (by kernel_rfl))
 f246 := Tryz.func125.trans (congrArg some (by kernel_rfl))
 f247 := Tryz.func120.trans (congrArg some (by kernel_rfl))
 f279 := Tryz.func121.trans (congrArg some (by kernel_rfl))
 f280 := Tryz.func122.trans (congrArg some (by kernel_rfl))
 f281 := Tryz.func123.trans (congrArg some (by kernel_rfl))
 f282 := Tryz.func124.trans (congrArg some (by kernel_rfl))
 f283 := Tryz.func136.trans (congrArg some (by kernel_rfl))
 f284 := Tryz.func137.trans (congrArg some (by kernel_rfl))
 f285 := Tryz.func138.trans (congrArg some (by kernel_rfl))
 f286 := Tryz.func139.trans (congrArg some (by kernel_rfl))
 f287 := Tryz.func133.trans (congrArg some (by kernel_rfl))
 f316 := Tryz.func134.trans (congrArg some (by kernel_rfl))
 f317 := Tryz.func143.trans (congrArg some (by kernel_rfl))
 f318 := Tryz.func145.trans (congrArg some (by kernel_rfl))
 f319 := Tryz.func146.trans (congrArg some (by kernel_rfl))
 f320 := Tryz.func147.trans (congrArg some (by kernel_rfl))
 f321 := Tryz.func141.trans (congrArg some (by kernel_rfl))
 f322 := Tryz.func142.trans (congrArg some (by kernel_rfl))
 f337 := Tryz.func148.trans (congrArg some (by kernel_rfl))
 f338 := Tryz.func149.trans (congrArg some (by kernel_rfl))
 t0 := Tryz.underlying0
 a0 := Tryz.isAgg0
 z0 := Tryz.sizeOf0
 v0 := Tryz.zeroValue0
 t2 := Tryz.underlying2
 a2 := Tryz.isAgg2
 z2 := Tryz.sizeOf2
 v2 := Tryz.zeroValue2
 t3 := Tryz.underlying3
 a3 := Tryz.isAgg3
 z3 := Tryz.sizeOf3
 v3 := Tryz.zeroValue3
 t4 := Tryz.underlying4
 a4 := Tryz.isAgg4
 z4 := Tryz.sizeOf4
 v4 := Tryz.zeroValue4
 t5 := Tryz.underlying5
 a5 := Tryz.isAgg5
 z5 := Tryz.sizeOf5
 v5 := Tryz.zeroValue5
 t9 := Tryz.underlying9
 a9 := Tryz.isAgg9
 z9 := Tryz.sizeOf9
 v9 := Tryz.zeroValue9
 t20 := Tryz.underlying20
 a20 := Tryz.isAgg20
 z20 := Tryz.sizeOf20
 v20 := Tryz.zeroValue20
 t21 := Tryz.underlying21
 a21 := Tryz.isAgg21
 z21 := Tryz.sizeOf21
 v21 := Tryz.zeroValue21
 t37 := Tryz.underlying64
 a37 := Tryz.isAgg64
 z37 := Tryz.sizeOf64
 v37 := Tryz.zeroValue64
 t46 := Tryz.underlying111
 a46 := Tryz.isAgg111
 z46 := Tryz.sizeOf111
 v46 := Tryz.zeroValue111
 t51 := Tryz.underlying119
 a51 := Tryz.isAgg119
 z51 := Tryz.sizeOf119
 v51 := Tryz.zeroValue119
 t53 := Tryz.underlying122
 a53 := Tryz.isAgg122
 z53 := Tryz.sizeOf122
 v53 := Tryz.zeroValue122
 t75 := Tryz.underlying91
 a75 := Tryz.isAgg91
 z75 := Tryz.sizeOf91
 v75 := Tryz.zeroValue91
 t76 := Tryz.underlying92
 a76 := Tryz.isAgg92
 z76 := Tryz.sizeOf92
 v76 := Tryz.zeroValue92
 t85 := Tryz.underlying113
 a85 := Tryz.isAgg113
 z85 := Tryz.sizeOf113
 v85 := Tryz.zeroValue113
 t127 := Tryz.underlying102
 a127 := Tryz.isAgg102
 z127 := Tryz.sizeOf102
 v127 := Tryz.zeroValue102
 t143 := Tryz.underlying139
 a143 := Tryz.isAgg139
 z143 := Tryz.sizeOf139
 v143 := Tryz.zeroValue139
 t145 := Tryz.underlying141
 a145 := Tryz.isAgg141
 z145 := Tryz.sizeOf141
 v145 := Tryz.zeroValue141
 t167 := Tryz.underlying112
 a167 := Tryz.isAgg112
 z167 := Tryz.sizeOf112
 v167 := Tryz.zeroValue112
 t168 := Tryz.underlying115
 a168 := Tryz.isAgg115
 z168 := Tryz.sizeOf115
 v168 := Tryz.zeroValue115
 t171 := Tryz.underlying128
 a171 := Tryz.isAgg128
 z171 := Tryz.sizeOf128
 v171 := Tryz.zeroValue128
 t173 := Tryz.underlying131
 a173 := Tryz.isAgg131
 z173 := Tryz.sizeOf131
 v173 := Tryz.zeroValue131
 t175 := Tryz.underlying123
 a175 := Tryz.isAgg123
 z175 := Tryz.sizeOf123
 v175 := Tryz.zeroValue123
 t210 := Tryz.underlying126
 a210 := Tryz.isAgg126
 z210 := Tryz.sizeOf126
 v210 := Tryz.zeroValue126
 t212 := Tryz.underlying143
 a212 := Tryz.isAgg143
 z212 := Tryz.sizeOf143
 v212 := Tryz.zeroValue143
 t213 := Tryz.underlying144
 a213 := Tryz.isAgg144
 z213 := Tryz.sizeOf144
 t232 := Tryz.underlying147
 a232 := Tryz.isAgg147
 z232 := Tryz.sizeOf147
 v232 := Tryz.zeroValue147
 t233 := Tryz.underlying148
 a233 := Tryz.isAgg148
 z233 := Tryz.sizeOf148
 v233 := Tryz.zeroValue148
 g15 := by kernel_rfl
 g16 := by kernel_rfl
 g17 := by kernel_rfl
 g18 := by kernel_rfl
 g19 := by kernel_rfl
 t80 := Tryz.underlying94
 a80 := Tryz.isAgg94
 z80 := Tryz.sizeOf94
 v80 := Tryz.zeroValue94
 i0 := by kernel_rfl
 i2 := by kernel_rfl
 i3 := by kernel_rfl
 i4 := by kernel_rfl
 i5 := by kernel_rfl
 i9 := by kernel_rfl
 i20 := by kernel_rfl
 i21 := by kernel_rfl
 i37 := by kernel_rfl
 i46 := by kernel_rfl
 i51 := by kernel_rfl
 i53 := by kernel_rfl
 i75 := by kernel_rfl
 i76 := by kernel_rfl
 i80 := by kernel_rfl
 i85 := by kernel_rfl
 i127 := by kernel_rfl
 i143 := by kernel_rfl
 i145 := by kernel_rfl
 i167 := by kernel_rfl
 i168 := by kernel_rfl
 i171 := by kernel_rfl
 i173 := by kernel_rfl
 i175 := by kernel_rfl
 i210 := by kernel_rfl
 i212 := by kernel_rfl
 i232 := by kernel_rfl
 i233 := by kernel_rfl
 m15 := by kernel_rfl
 m16 := by kernel_rfl
 m17 := by kernel_rfl
 m18 := by kernel_rfl
 m19 := by kernel_rfl
 c0 := by kernel_rfl
 c2 := by kernel_rfl
 c3 := by kernel_rfl
 c4 := by kernel_rfl
 c5 := by kernel_rfl
 c9 := by kernel_rfl
 c20 := by kernel_rfl
 c21 := by kernel_rfl
 c37 := by kernel_rfl
 c46 := by kernel_rfl
 c51 := by kernel_rfl
 c53 := by kernel_rfl
 c75 := by kernel_rfl
 c76 := by kernel_rfl
 c80 := by kernel_rfl
 c85 := by kernel_rfl
 c127 := by kernel_rfl
 c143 := by kernel_rfl
 c145 := by kernel_rfl
 c167 := by kernel_rfl
 c168 := by kernel_rfl
 c171 := by kernel_rfl
 c173 := by kernel_rfl
 c175 := by kernel_rfl
 c210 := by kernel_rfl
 c212 := by kernel_rfl
 c213 := by kernel_rfl
 c232 := by kernel_rfl
 c233 := by kernel_rfl }
def layItoa_ren : Go.Shelf.Ren := ⟨fun | 171 => 81 | 243 => 103 | 246 => 125 | 283 => 136 | 284 => 137 | 285 => 138 | 286 => 139 | 129 => 144 | 317 => 143 | 318 => 145 | 319 => 146 | 320 => 147 | 337 => 148 | 338 => 149 | n => n, fun | 3 => 3 | 9 => 9 | 2 => 2 | 4 => 4 | 171 => 128 | 0 => 0 | 53 => 122 | 37 => 64 | 5 => 5 | 173 => 131 | 212 => 143 | 51 => 119 | 20 => 20 | 213 => 144 | 46 => 111 | 232 => 147 | 233 => 148 | n => n, fun | 17 => 5 | 18 => 6 | 19 => 7 | n => n⟩
theorem layItoa : Go.Proofs.LaysM.n171 Tryz.prog layItoa_ren := {
 mixed := by kernel_rfl
 f129 := Tryz.func144.trans (congrArg some (by kernel_rfl))
 f171 := Tryz.func81.trans (congrArg some (by kernel_rfl))
 f243 := Tryz.func103.trans (congrArg some (by kernel_rfl))
 f246 := Tryz.func125.trans (congrArg some (by kernel_rfl))
 f283 := Tryz.func136.trans (congrArg some (by kernel_rfl))
 f284 := Tryz.func137.trans (congrArg some (by kernel_rfl))
 f285 := Tryz.func138.trans (congrArg some (by kernel_rfl))
 f286 := Tryz.func139.trans (congrArg some (by kernel_rfl))
 f317 := Tryz.func143.trans (congrArg some (by kernel_rfl))
 f318 := Tryz.func145.trans (congrArg some (by kernel_rfl))
 f319 := Tryz.func146.trans (congrArg some (by kernel_rfl))
 f320 := Tryz.func147.trans (congrArg some (by kernel_rfl))
 f337 := Tryz.func148.trans (congrArg some (by kernel_rfl))
 f338 := Tryz.func149.trans (congrArg some (by kernel_rfl))
 t0 := Tryz.underlying0
 a0 := Tryz.isAgg0
 z0 := Tryz.sizeOf0
 v0 := Tryz.zeroValue0
 t2 := Tryz.underlying2
 a2 := Tryz.isAgg2
 z2 := Tryz.sizeOf2
 v2 := Tryz.zeroValue2
 t3 := Tryz.underlying3
 a3 := Tryz.isAgg3
 z3 := Tryz.sizeOf3
 v3 := Tryz.zeroValue3
 t4 := Tryz.underlying4
 a4 := Tryz.isAgg4
 z4 := Tryz.sizeOf4
 v4 := Tryz.zeroValue4
 t5 := Tryz.underlying5
 a5 := Tryz.isAgg5
 z5 := Tryz.sizeOf5
 v5 := Tryz.zeroValue5
 t9 := Tryz.underlying9
 a9 := Tryz.isAgg9
 z9 := Tryz.sizeOf9
 v9 := Tryz.zeroValue9
 t20 := Tryz.underlying20
 a20 := Tryz.isAgg20
 z20 := Tryz.sizeOf20
 v20 := Tryz.zeroValue20
 t37 := Tryz.underlying64
 a37 := Tryz.isAgg64
 z37 := Tryz.sizeOf64
 v37 := Tryz.zeroValue64
 t46 := Tryz.underlying111
 a46 := Tryz.isAgg111
 z46 := Tryz.sizeOf111
 v46 := Tryz.zeroValue111
 t51 := Tryz.underlying119
 a51 := Tryz.isAgg119
 z51 := Tryz.sizeOf119
 v51 := Tryz.zeroValue119
 t53 := Tryz.underlying122
 a53 := Tryz.isAgg122
 z53 := Tryz.sizeOf122
 v53 := Tryz.zeroValue122
 t171 := Tryz.underlying128
 a171 := Tryz.isAgg128
 z171 := Tryz.sizeOf128
 v171 := Tryz.zeroValue128
 t173 := Tryz.underlying131
 a173 := Tryz.isAgg131
 z173 := Tryz.sizeOf131
 v173 := Tryz.zeroValue131
 t212 := Tryz.underlying143
 a212 := Tryz.isAgg143
 z212 := Tryz.sizeOf143
 v212 := Tryz.zeroValue143
 t213 := Tryz.underlying144
 a213 := Tryz.isAgg144
 z213 := Tryz.sizeOf144
 t232 := Tryz.underlying147
 a232 := Tryz.isAgg147
 z232 := Tryz.sizeOf147
 v232 := Tryz.zeroValue147
 t233 := Tryz.underlying148
 a233 := Tryz.isAgg148
 z233 := Tryz.sizeOf148
 v233 := Tryz.zeroValue148
 g17 := by kernel_rfl
 g18 := by kernel_rfl
 g19 := by kernel_rfl
 i0 := by kernel_rfl
 i2 := by kernel_rfl
 i3 := by kernel_rfl
 i4 := by kernel_rfl
 i5 := by kernel_rfl
 i9 := by kernel_rfl
 i20 := by kernel_rfl
 i37 := by kernel_rfl
 i46 := by kernel_rfl
 i51 := by kernel_rfl
 i53 := by kernel_rfl
 i171 := by kernel_rfl
 i173 := by kernel_rfl
 i212 := by kernel_rfl
 i232 := by kernel_rfl
 i233 := by kernel_rfl
 m17 := by kernel_rfl
 m18 := by kernel_rfl
 m19 := by kernel_rfl }
theorem Qpl : Builder.Extra Tryz.prog Mq where
 sizeBuilder := by kernel_rfl
 liesBuilder := by kernel_rfl
 t5 := Tryz.underlying5
 a5 := Tryz.isAgg5
 z5 := Tryz.sizeOf5
 v5 := Tryz.zeroValue5
 infoByte := by kernel_rfl
 cellsByte := by kernel_rfl
 sizeByte := by kernel_rfl
 neB5 := by decide
end Go.Proofs.YtmoodkjkecjeaabGreatDoor
namespace Go.Proofs.YtmoodkjkecjeaabGreatDoor
open Go.RowKit
set_option maxRecDepth 100000
set_option linter.unusedVariables false
set_option linter.unusedSimpArgs false
open Go.Shelf
def decN (s : ByteArray) : Int := match Lib.atoiAll s.data.toList with
 | .ok v => bif decide (0 ≤ v) && (Lib.itoa v == s.data.toList) then v else -1
 | _ => -1
theorem GP.tab {w : World} (h : GP w) : Lib.TabIs Tryz.prog w "internal/strconv.uint64pow10" .u64 Lib.pow10Tab := by
 obtain ⟨T, fz, h1⟩ := h.2.2 _ (List.mem_append_right _ (List.mem_singleton.2 rfl))
 have hg := layItoa.m17
 unfold Lib.TabIs World.var?
 rw [hg]
 simp only [Option.bind_some]
 exact (congrArg (fun o => match o with | some (Obj.cells cs _ _) => some cs | _ => none) h1)
theorem GP.err1 {w : World} (h : GP w) : ∃ e, w.cell? ⟨layAtoi_ren.g 15, 0, none⟩ = some e ∧ (e = .nilIface ∨ ∃ te pe, e = .iface te pe) := h.1 _ (by decide)
theorem GP.err2 {w : World} (h : GP w) : ∃ e, w.cell? ⟨layAtoi_ren.g 16, 0, none⟩ = some e ∧ (e = .nilIface ∨ ∃ te pe, e = .iface te pe) := h.1 _ (by decide)
theorem Qri {w w' : World} (h : Lib.TabIs Tryz.prog w "internal/strconv.uint64pow10" .u64 Lib.pow10Tab) (hb : Below w.heap.size w w') : Lib.TabIs Tryz.prog w' "internal/strconv.uint64pow10" .u64 Lib.pow10Tab := by
 unfold Lib.TabIs World.var? at h ⊢
 rw [layItoa.m17] at h ⊢
 simp only [Option.bind_some] at h ⊢
 have hlt : layItoa_ren.g 17 < w.heap.size := by
  rcases Nat.lt_or_ge (layItoa_ren.g 17) w.heap.size with h1 | h1
  ·exact h1
  ·rw [Array.getElem?_eq_none h1] at h; cases h
 rw [hb.block _ hlt]
 exact h
set_option maxHeartbeats 1000000 in
theorem Qgy (s : ByteArray) (w : World) (v0 : Int) (R : World → Prop) (hI : Calls Tryz.prog 80 #[.string s] w fun e w' => (∃ N, e = .returned (.tuple #[.int .i64 v0, .iface (layAtoi_ren.t 168) (.pointer (some ⟨N, 0, none⟩))])) ∧ Below w.heap.size w w') :
  Calls Tryz.prog 67 #[.string s] w fun e w' => e = .returned (.int .i64 (-1)) ∧ Below w.heap.size w w' := by
 go_enter Tryz.func67, Tryz.ntmps67
 go_wp2_with (go_at_call 80; refine hI.mono ?_; rintro e W1 ⟨⟨N, rfl⟩, hW⟩)
 go_ret
 exact ⟨rfl, hW⟩
set_option maxHeartbeats 1000000 in
theorem Qyk (s : ByteArray) (w : World) (v : Int) (hv : decide (v < 0) = true) (hI : Calls Tryz.prog 80 #[.string s] w fun e w' => e = .returned (.tuple #[.int .i64 v, .nilIface]) ∧ Below w.heap.size w w') :
  Calls Tryz.prog 67 #[.string s] w fun e w' => e = .returned (.int .i64 (-1)) ∧ Below w.heap.size w w' := by
 go_enter Tryz.func67, Tryz.ntmps67
 go_wp2_with (go_at_call 80; refine hI.mono ?_; rintro e W1 ⟨rfl, hW⟩)
 go_ret
 exact ⟨rfl, hW⟩
set_option maxHeartbeats 1000000 in
theorem Qyc (s : ByteArray) (w : World) (v : Int) (hv : decide (v < 0) = false) (hv2 : v ≤ 9223372036854775807) (ht : Lib.TabIs Tryz.prog w "internal/strconv.uint64pow10" .u64 Lib.pow10Tab)
  (hI : Calls Tryz.prog 80 #[.string s] w fun e w' => e = .returned (.tuple #[.int .i64 v, .nilIface]) ∧ Below w.heap.size w w') :
  Calls Tryz.prog 67 #[.string s] w fun e w' => e = .returned (.int .i64 (bif Lib.itoa v == s.data.toList then v else -1)) ∧ Below w.heap.size w w' := by
 have hv0 : 0 ≤ v := by simpa using hv
 have hT : ∀ W1, Below w.heap.size w W1 → Calls Tryz.prog 81 #[.int .i64 v] W1 fun e w' => e = .returned (.string ⟨(Lib.itoa v).toArray⟩) ∧ Below W1.heap.size W1 w' := fun W1 hW => by
  refine (Any.strconv_Itoa layItoa v (by omega) hv2 W1 (Qri ht hW)).mono ?_
  rintro e w' ⟨rfl, k, os, rfl⟩
  exact ⟨rfl, ⟨rfl, rfl, rfl, by simp [Go.Sort.grow], fun b hb => by simp [Go.Sort.grow, Array.getElem?_append_left hb]⟩⟩
 have H := Lib.hid hT
 clear hT
 have key : (bif Lib.itoa v == s.data.toList then v else -1) = (bif (!(Lib.itoa v == s.toList)) then -1 else v) := by
  have e : s.toList = s.data.toList := Ua s
  rw [e]
  cases (Lib.itoa v == s.data.toList) <;> rfl
 rw [key]
 clear key
 go_enter Tryz.func67, Tryz.ntmps67
 go_wp2_with (first | (go_at_call 80; refine hI.mono ?_; rintro e W1 ⟨rfl, hW⟩) | (go_at_call 81; refine (H.out _ hW).mono ?_; rintro e W2 ⟨rfl, hW2⟩))
 all_goals
  rename_i hq
  rw [hq]
  go_ret
  exact ⟨rfl, hW.trans (hW2.mono hW.size)⟩
theorem dec_ok (s : ByteArray) (hs : s.size ≤ 281474976710656) (w : World) (hG : GP w) :
  Calls Tryz.prog 67 #[.string s] w fun e w' => e = .returned (.int .i64 (decN s)) ∧ Below w.heap.size w w' := by
 unfold decN
 cases h : Lib.atoiAll s.data.toList with
 | ok v =>
  obtain ⟨b0, b1⟩ := Lib.atoiAll_bounds h
  have hI : Calls Tryz.prog 80 #[.string s] w fun e w' => e = .returned (.tuple #[.int .i64 v, .nilIface]) ∧ Below w.heap.size w w' := by
   refine (Any.strconv_Atoi_ok Qeg s (by omega) v h w).mono ?_
   rintro e w' ⟨rfl, hw⟩
   refine ⟨rfl, ?_⟩
   rcases hw with rfl | ⟨t, rfl⟩
   ·exact Below.refl _ _
   ·exact Lib.bytesWorld_below _ _ _
  by_cases hv : v < 0
  ·have e1 : (bif decide (0 ≤ v) && (Lib.itoa v == s.data.toList) then v else -1) = -1 := by
    rw [decide_eq_false (by omega)]; rfl
   simp only [e1]
   exact Qyk s w v (decide_eq_true hv) hI
  ·have e1 : (bif decide (0 ≤ v) && (Lib.itoa v == s.data.toList) then v else -1) = (bif Lib.itoa v == s.data.toList then v else -1) := by
    rw [decide_eq_true (by omega), Bool.true_and]
   simp only [e1]
   exact Qyc s w v (decide_eq_false hv) (by omega) hG.tab hI
 | range =>
  obtain ⟨ev, h1, h2⟩ := hG.err2
  refine Qgy s w (Lib.atoiSat s.data.toList) (fun _ => True) ((Any.strconv_Atoi_range Qeg s hs h ev w h1 h2).mono ?_)
  rintro e w' ⟨N, rfl, _, _, hb⟩
  exact ⟨⟨N, rfl⟩, hb⟩
 | _ =>
  obtain ⟨ev, h1, h2⟩ := hG.err1
  refine Qgy s w 0 (fun _ => True) ((Any.strconv_Atoi_syntax Qeg s hs h ev w h1 h2).mono ?_)
  rintro e w' ⟨N, rfl, _, _, hb⟩
  exact ⟨⟨N, rfl⟩, hb⟩
theorem Qis (s : ByteArray) : Spec.ok Tryz.prog 67 ⟨[.r (.c (.v (.string s)))], .v (.int .i64 (decN s)), s.size ≤ 281474976710656⟩ false := by
 intro hs S w vs fp hS hG hA
 obtain ⟨u, us, f, g, rfl, ⟨⟨rfl, _⟩, rfl⟩, ⟨rfl, rfl⟩, rfl, _⟩ := hA
 refine (dec_ok s hs w hG.1).mono fun e w' ⟨h1, h2⟩ => ?_
 exact ⟨_, [], [], h1, ⟨rfl, rfl, rfl⟩, ⟨_, _, [], [], rfl, rfl, rfl, rfl⟩, List.nodup_nil, fun b hb => by simp at hb, ⟨h2.os, h2.tape, h2.output, h2.size, fun k hk _ => h2.block k hk, Nat.zero_le _⟩⟩
end Go.Proofs.YtmoodkjkecjeaabGreatDoor
namespace Go.Proofs.YtmoodkjkecjeaabGreatDoor
theorem ai {a b : Prop} (h : a) (k : b) : a ∧ b := ⟨h, k⟩
theorem ir {d:Dat}:Imp d d := Imp.refl d
abbrev vI (x : Int) : Value := .int .i64 x
open Go.RowKit
set_option maxRecDepth 100000
set_option linter.unusedVariables false
set_option linter.unusedSimpArgs false
theorem mixed : Tryz.prog.follows .mixedOrders = true := Checked.mixed Tryz.checked
def F66 (s : ByteArray) (sep : ByteArray) : ByteArray × ByteArray × Bool :=
 cut3 s sep
def S66 (s : ByteArray) (sep : ByteArray) : Spec := ⟨[.r (.c (.v (.string s))), .r (.c (.v (.string sep)))], .tu [.v (.string ((F66 s sep).1)), .v (.string ((F66 s sep).2.1)), .v (.bool ((F66 s sep).2.2))], s.size ≤ 4294967280⟩
theorem ok66 (s : ByteArray) (sep : ByteArray) : (S66 s sep).ok Tryz.prog 66 :=
 cut_ok layCut (by decide) s sep
theorem g66_0 (s : ByteArray) (sep : ByteArray) : (F66 s sep).1.size ≤ (s.size : Int) := by
 exact Pz s sep
theorem g66_1 (s : ByteArray) (sep : ByteArray) : (F66 s sep).2.1.size ≤ (s.size : Int) := by
 exact Qro s sep
def F67 (text : ByteArray) : Int :=
 decN text
def S67 (text : ByteArray) : Spec := ⟨[.r (.c (.v (.string text)))], .v (vI (F67 text)), text.size ≤ 281474976710656⟩
theorem ok67 (text : ByteArray) : (S67 text).ok Tryz.prog 67 false :=
 Qis text
def F53 (n : Int) (low : Int) (high : Int) : Bool :=
 (bif decide (low ≤ n) then decide (n ≤ high) else false)
def S53 (R : Bool) (n : Int) (low : Int) (high : Int) : Spec := ⟨[.r (.c (.v (vI n))), .r (.c (.v (vI low))), .r (.c (.v (vI high)))], .v (.bool R), True⟩
theorem ok53 (n : Int) (low : Int) (high : Int) : (S53 (F53 n low high) n low high).ok Tryz.prog 53 :=
 Ql mixed (fn := Tryz.f53) (ct := .seq .no (.seq .no .no)) Tryz.func53 (fun (_ : True) => fiB (bif decide (low ≤ n) then decide (n ≤ high) else false) (F53 n low high) rfl) (by kernel_rfl)
theorem as53 (n : Int) (low : Int) (high : Int) : F53 n low high = (decide (low ≤ n ∧ n ≤ high)) := by
 simp only [F53, Bool.decide_and, bandd]
theorem oa53 (n : Int) (low : Int) (high : Int) : (S53 (decide (low ≤ n ∧ n ≤ high)) n low high).ok Tryz.prog 53 := by
 intro hp; have h := ok53 n low high hp; rw [as53 n low high] at h; exact h
theorem kc66 (s : ByteArray) (sep : ByteArray) {K_ : Prop} (p0_ : s.size ≤ 4294967280) (k_ : ((F66 s sep).1.size ≤ (s.size : Int)) → ((F66 s sep).2.1.size ≤ (s.size : Int)) → K_) : (s.size ≤ 4294967280) ∧ (Imp (.v (.string s)) (.v (.string s))) ∧ (Imp (.v (.string sep)) (.v (.string sep))) ∧ K_ := ⟨p0_, Imp.refl _, Imp.refl _, k_ (g66_0 s sep) (g66_1 s sep)⟩
theorem kc67 (text : ByteArray) {K_ : Prop} (p0_ : text.size ≤ 281474976710656) (k_ : K_) : (text.size ≤ 281474976710656) ∧ (Imp (.v (.string text)) (.v (.string text))) ∧ K_ := ⟨p0_, Imp.refl _, k_⟩
abbrev Qsc (s : ByteArray) (sep : ByteArray) : Hint false Tryz.prog := .call 66 (S66 s sep) ((ok66 s sep).to false) none
abbrev kh67 (text : ByteArray) : Hint false Tryz.prog := .call 67 (S67 text) (ok67 text) none
theorem Qfr (n : Int) (low : Int) (high : Int) {K_ : Prop} (k_ : K_) : (True) ∧ (Imp (.v (vI n)) (.v (vI n))) ∧ (Imp (.v (vI low)) (.v (vI low))) ∧ (Imp (.v (vI high)) (.v (vI high))) ∧ K_ := ⟨trivial, Imp.refl _, Imp.refl _, Imp.refl _, k_⟩
theorem Qmh {K_ : Prop} (c_ b_ : Bool) (n : Int) (low : Int) (high : Int) (k_ : K_) : (c_ = b_ → True) ∧ (c_ = b_ → Imp (.v (vI n)) (.v (vI n))) ∧ (c_ = b_ → Imp (.v (vI low)) (.v (vI low))) ∧ (c_ = b_ → Imp (.v (vI high)) (.v (vI high))) ∧ K_ := ⟨fun _ => trivial, fun _ => Imp.refl _, fun _ => Imp.refl _, fun _ => Imp.refl _, k_⟩
abbrev Eg (n : Int) (low : Int) (high : Int) : Hint false Tryz.prog := .call 53 (S53 (decide (low ≤ n ∧ n ≤ high)) n low high) ((oa53 n low high).to false) none
abbrev w0_ : ByteArray := ⟨#[46]⟩
def F47 (text : ByteArray) : Int :=
 bif (bif (bif (!((F66 text (⟨#[46]⟩ : ByteArray)).2.2)) then true else (!(decide (0 ≤ (F67 ((F66 text (⟨#[46]⟩ : ByteArray)).1)) ∧ (F67 ((F66 text (⟨#[46]⟩ : ByteArray)).1)) ≤ 255)))) then true else (!(decide (0 ≤ (F67 ((F66 text (⟨#[46]⟩ : ByteArray)).2.1)) ∧ (F67 ((F66 text (⟨#[46]⟩ : ByteArray)).2.1)) ≤ 255)))) then (-1) else (IntKind.i64.wrap ((IntKind.i64.wrap (256 * (F67 ((F66 text (⟨#[46]⟩ : ByteArray)).1)))) + (F67 ((F66 text (⟨#[46]⟩ : ByteArray)).2.1))))
def S47 (text : ByteArray) : Spec := ⟨[.r (.c (.v (.string text)))], .v (vI (F47 text)), text.size ≤ 1048576⟩
theorem ok47 (text : ByteArray) : (S47 text).ok Tryz.prog 47 false :=
 Ql mixed (fn := Tryz.f47) (ct := .seq .no (.seq (.reg [(1, Qsc text w0_)]) (.seq (.reg [(1, kh67 ((F66 text w0_).1)), (3, kh67 ((F66 text w0_).2.1))]) (.seq (.seq (.reg [(4, Eg (F67 ((F66 text w0_).1)) 0 255), (9, Eg (F67 ((F66 text w0_).2.1)) 0 255)]) (.cond (.seq .no .no) .no)) (.seq .no .no))))) Tryz.func47 (fun (hpre0 : text.size ≤ 1048576) => kc66 text w0_ (by omega) (fun gv1 gv2 => kc67 ((F66 text w0_).1) (by omega) (kc67 ((F66 text w0_).2.1) (by omega) (Qmh (!((F66 text w0_).2.2)) false (F67 ((F66 text w0_).1)) 0 255 (Qmh (bif (!((F66 text w0_).2.2)) then true else (!(decide (0 ≤ (F67 ((F66 text w0_).1)) ∧ (F67 ((F66 text w0_).1)) ≤ 255)))) false (F67 ((F66 text w0_).2.1)) 0 255 (ifb (bif (bif (!((F66 text w0_).2.2)) then true else (!(decide (0 ≤ (F67 ((F66 text w0_).1)) ∧ (F67 ((F66 text w0_).1)) ≤ 255)))) then true else (!(decide (0 ≤ (F67 ((F66 text w0_).2.1)) ∧ (F67 ((F66 text w0_).2.1)) ≤ 255)))) (fun h5 => fiI (-1) (F47 text) (condT h5 rfl)) (fun h5 => have _ : (F66 text w0_).2.2 = true := (Yl (orF1 (orF1 h5))); have _ : 0 ≤ (F67 ((F66 text w0_).1)) ∧ (F67 ((F66 text w0_).1)) ≤ 255 := of_decide_eq_true (Yl (orF2 (orF1 h5))); have _ : 0 ≤ (F67 ((F66 text w0_).2.1)) ∧ (F67 ((F66 text w0_).2.1)) ≤ 255 := of_decide_eq_true (Yl (orF2 h5)); fiI (IntKind.i64.wrap ((IntKind.i64.wrap (256 * (F67 ((F66 text w0_).1)))) + (F67 ((F66 text w0_).2.1)))) (F47 text) (condF h5 rfl)))))))) (by kernel_rfl)
structure Qb where
 Addr : Int
 Len : Int
 deriving DecidableEq, Inhabited
def Qh (x : Qb) : List Dat := [.v (vI x.Addr), .v (vI x.Len)]
def F82 (p : Qb) : Int :=
 (IntKind.i64.wrap (1 * 2 ^ (min (16 - p.Len).toNat IntKind.i64.bits)))
def S82 (p : Qb) : Spec := ⟨[.r (.g (Qh p))], .v (vI (F82 p)), 0 ≤ p.Len ∧ p.Len ≤ 16⟩
theorem ok82 (p : Qb) : (S82 p).ok Tryz.prog 82 :=
 Ql mixed (fn := Tryz.f82) (ct := .seq .no (.seq (.reg [(2, .bnd)]) .no)) Tryz.func82 (fun (hp : 0 ≤ p.Len ∧ p.Len ≤ 16) => have hpre0 := hp.1; have hpre1 := hp.2; ai (iok (16 - p.Len) (by omega)) (ai (by omega : 0 ≤ (16 - p.Len)) (fiI (IntKind.i64.wrap (1 * 2 ^ (min (16 - p.Len).toNat IntKind.i64.bits))) (F82 p) rfl))) (by kernel_rfl)
theorem Qso (p : Qb) : 0 ≤ p.Len → p.Len ≤ 16 → 1 ≤ (F82 p) ∧ (F82 p) ≤ 65536 := by
 obtain ⟨a, l⟩ := p; intro h1 h2; simp only at h1 h2; have h3 : l = 0 ∨ l = 1 ∨ l = 2 ∨ l = 3 ∨ l = 4 ∨ l = 5 ∨ l = 6 ∨ l = 7 ∨ l = 8 ∨ l = 9 ∨ l = 10 ∨ l = 11 ∨ l = 12 ∨ l = 13 ∨ l = 14 ∨ l = 15 ∨ l = 16 := by omega
 rcases h3 with rfl | rfl | rfl | rfl | rfl | rfl | rfl | rfl | rfl | rfl | rfl | rfl | rfl | rfl | rfl | rfl | rfl <;> exact of_decide_eq_true rfl
abbrev Qmt (n : Int) (low : Int) (high : Int) : Hint true Tryz.prog := .call 53 (S53 (decide (low ≤ n ∧ n ≤ high)) n low high) (oa53 n low high) none
theorem kc82 (p : Qb) {K_ : Prop} (p0_ : 0 ≤ p.Len) (p1_ : p.Len ≤ 16) (q0_ : 0 ≤ p.Len) (q1_ : p.Len ≤ 16) (k_ : (1 ≤ (F82 p) ∧ (F82 p) ≤ 65536) → (0 ≤ p.Len → p.Len ≤ 16 → 1 ≤ (F82 p) ∧ (F82 p) ≤ 65536) → K_) : (0 ≤ p.Len ∧ p.Len ≤ 16) ∧ (Imps (Qh p) (Qh p)) ∧ K_ := ⟨⟨p0_, p1_⟩, Imps.refl _, k_ (Qso p q0_ q1_) (Qso p)⟩
theorem kg82 {K_ : Prop} (c_ b_ : Bool) (p : Qb) (p_ : c_ = b_ → 0 ≤ p.Len ∧ p.Len ≤ 16) (k_ : K_) : (c_ = b_ → 0 ≤ p.Len ∧ p.Len ≤ 16) ∧ (c_ = b_ → Imps (Qh p) (Qh p)) ∧ K_ := ⟨p_, fun _ => Imps.refl _, k_⟩
abbrev kh82 (p : Qb) : Hint true Tryz.prog := .call 82 (S82 p) (ok82 p) none
def F70 (p : Qb) : Bool :=
 (bif (bif (decide (0 ≤ p.Len ∧ p.Len ≤ 16)) then (decide (0 ≤ p.Addr ∧ p.Addr ≤ 65535)) else false) then ((p.Addr.tmod (F82 p)) == 0) else false)
def S70 (p : Qb) : Spec := ⟨[.r (.g (Qh p))], .v (.bool (F70 p)), True⟩
theorem ok70 (p : Qb) : (S70 p).ok Tryz.prog 70 :=
 Ql mixed (fn := Tryz.f70) (ct := .seq .no (.seq (.reg [(2, Qmt p.Len 0 16), (6, Qmt p.Addr 0 65535), (12, kh82 p)]) .no)) Tryz.func70 (fun (_ : True) => Qfr p.Len 0 16 (Qmh (decide (0 ≤ p.Len ∧ p.Len ≤ 16)) true p.Addr 0 65535 (kg82 (bif (decide (0 ≤ p.Len ∧ p.Len ≤ 16)) then (decide (0 ≤ p.Addr ∧ p.Addr ≤ 65535)) else false) true p (fun k4 => have _ := of_decide_eq_true (Qi k4); have _ := of_decide_eq_true (Qv k4); ⟨(by omega), (by omega)⟩) (ai (fun k5 : (bif (decide (0 ≤ p.Len ∧ p.Len ≤ 16)) then (decide (0 ≤ p.Addr ∧ p.Addr ≤ 65535)) else false) = true => have _ := of_decide_eq_true (Qi k5); have _ := of_decide_eq_true (Qv k5); (by have h9 := Qso p (by omega) (by omega); omega : ¬ (F82 p) = 0)) (fiB (bif (bif (decide (0 ≤ p.Len ∧ p.Len ≤ 16)) then (decide (0 ≤ p.Addr ∧ p.Addr ≤ 65535)) else false) then ((p.Addr.tmod (F82 p)) == 0) else false) (F70 p) rfl))))) (by kernel_rfl)
theorem kc47 (text : ByteArray) {K_ : Prop} (p0_ : text.size ≤ 1048576) (k_ : K_) : (text.size ≤ 1048576) ∧ (Imp (.v (.string text)) (.v (.string text))) ∧ K_ := ⟨p0_, Imp.refl _, k_⟩
abbrev kh47 (text : ByteArray) : Hint false Tryz.prog := .call 47 (S47 text) (ok47 text) none
abbrev w1_ : ByteArray := ⟨#[47]⟩
def F51 (text : ByteArray) : Qb × Bool :=
 bif (bif (!((F66 text (⟨#[47]⟩ : ByteArray)).2.2)) then true else (!(F70 (⟨(F47 ((F66 text (⟨#[47]⟩ : ByteArray)).1)), (F67 ((F66 text (⟨#[47]⟩ : ByteArray)).2.1))⟩ : Qb)))) then ((⟨0, 0⟩ : Qb), false) else ((⟨(F47 ((F66 text (⟨#[47]⟩ : ByteArray)).1)), (F67 ((F66 text (⟨#[47]⟩ : ByteArray)).2.1))⟩ : Qb), true)
theorem fi51 (text : ByteArray) (r : Qb × Bool) (hF : r = (F51 text)) : ((.int .i64 r.1.Addr : Value) = .int .i64 (((F51 text).1).Addr)) ∧ ((.int .i64 r.1.Len : Value) = .int .i64 (((F51 text).1).Len)) ∧ ((.bool r.2 : Value) = .bool ((F51 text).2)) ∧ True := by cases hF; exact ⟨rfl, rfl, rfl, trivial⟩
def S51 (text : ByteArray) : Spec := ⟨[.r (.c (.v (.string text)))], .tu [.ag [.v (vI (((F51 text).1).Addr)), .v (vI (((F51 text).1).Len))], .v (.bool ((F51 text).2))], text.size ≤ 1048576⟩
theorem ok51 (text : ByteArray) : (S51 text).ok Tryz.prog 51 false :=
 Ql mixed (fn := Tryz.f51) (ct := .seq .no (.seq (.reg [(1, Qsc text w1_)]) (.seq (.reg [(1, kh47 ((F66 text w1_).1)), (3, kh67 ((F66 text w1_).2.1))]) (.seq (.seq (.reg [(4, .call 70 (S70 (⟨(F47 ((F66 text w1_).1)), (F67 ((F66 text w1_).2.1))⟩ : Qb)) ((ok70 (⟨(F47 ((F66 text w1_).1)), (F67 ((F66 text w1_).2.1))⟩ : Qb)).to false) none)]) (.cond (.seq .no .no) .no)) (.seq .no .no))))) Tryz.func51 (fun (hpre0 : text.size ≤ 1048576) => kc66 text w1_ (by omega) (fun gv1 gv2 => kc47 ((F66 text w1_).1) (by omega) (kc67 ((F66 text w1_).2.1) (by omega) (ai (fun k3 : (!((F66 text w1_).2.2)) = false => have _ : (F66 text w1_).2.2 = true := (Yl k3); trivial) (ai (fun k4 : (!((F66 text w1_).2.2)) = false => have _ : (F66 text w1_).2.2 = true := (Yl k4); (Imps.refl (Qh (⟨(F47 ((F66 text w1_).1)), (F67 ((F66 text w1_).2.1))⟩ : Qb)))) (ifb (bif (!((F66 text w1_).2.2)) then true else (!(F70 (⟨(F47 ((F66 text w1_).1)), (F67 ((F66 text w1_).2.1))⟩ : Qb)))) (fun h5 => fi51 text ((⟨0, 0⟩ : Qb), false) (condT h5 rfl)) (fun h5 => have _ : (F66 text w1_).2.2 = true := (Yl (orF1 h5)); fi51 text ((⟨(F47 ((F66 text w1_).1)), (F67 ((F66 text w1_).2.1))⟩ : Qb), true) (condF h5 rfl)))))))) (by kernel_rfl)
def F62 (s : ByteArray) (sep : ByteArray) : List ByteArray :=
 Qw s sep
def S62 (s : ByteArray) (sep : ByteArray) : Spec := ⟨[.r (.c (.v (.string s))), .r (.c (.v (.string sep)))], .ow (.l 1 eStr (F62 s sep)), s.size ≤ 4294967280 ∧ 1 ≤ sep.size⟩
theorem ok62 (s : ByteArray) (sep : ByteArray) : (S62 s sep).ok Tryz.prog 62 :=
 Qww Qvy (by kernel_rfl) (by decide) s sep
def Ba (s : List ByteArray) (v1 : ByteArray) : Int → Lp Int Int := fun v8 =>
 bif (decide (v8 < (s.length : Int))) then (bif (v1.toList == (s.getD (Int.toNat v8) default).toList) then (.ret v8) else (.next (v8 + 1))) else (.done v8)
def F130 (s : List ByteArray) (v1 : ByteArray) : Int :=
 (runL (Ba s v1) ((Int.toNat ((s.length : Int) - 0)) + 1) 0).fin (fun r => r) (fun v8 => (-1))
abbrev Gr (s : List ByteArray) : Nat × Int := (((Int.toNat ((s.length : Int) - 0)) + 1), 0)
abbrev Qdq (s : List ByteArray) (m39 : Nat) (v8 : Int) : Prop := Int.toNat ((s.length : Int) - v8) < m39 ∧ (0 : Int) ≤ v8
abbrev Qmc (s : List ByteArray) (v1 : ByteArray) : Lp Int Int := LpX (Ba s v1) (Gr s)
abbrev Ho (s : List ByteArray) (v1 : ByteArray) (i : Nat × Int) : Prop := LpJ (Ba s v1) (Gr s) i (Qdq s i.1 i.2)
abbrev Qmk (s : List ByteArray) (v1 : ByteArray) (i : Nat × Int) (m39 : Nat) (v8 : Int) : Prop := LpH (Ba s v1) (Gr s) i m39 v8 (Qdq s (m39 + 1) v8)
abbrev Qll (s : List ByteArray) (v1 : ByteArray) (v8 : Int) (v8_ : Int) (K39 : Prop) : Prop := (Rf (.string v1)) ∧ (Rf (.int .i64 (s.length : Int))) ∧ ((.int .i64 v8 : Value) = .int .i64 v8_) ∧ (Im (.l 1 eStr s)) ∧ K39
theorem Qyw (s : List ByteArray) (v1 : ByteArray) (i : Nat × Int) (h : Ho s v1 i) : Qmk s v1 i (i.1 - 1) i.2 := ⟨hd1 h.1 h.2.1, hd3 h.2.1, hd2 h.2.1, h.2.2⟩
theorem Qyq (s : List ByteArray) (v1 : ByteArray) (i : Nat × Int) (m39 : Nat) (v8 : Int) (hl : m39 < i.1) (e : runL (Ba s v1) m39 v8 = Qmc s v1) (h : Qdq s m39 v8) : ∃ j : Nat × Int, Qll s v1 v8 j.2 (Ho s v1 j ∧ j.1 < i.1) := ⟨(m39, v8), rfl, rfl, rfl, Imp.refl _, ⟨e, h⟩, hl⟩
theorem Qyv (s : List ByteArray) (v1 : ByteArray) (h : (0 : Int) ≤ 0) : Qll s v1 0 0 (Ho s v1 (Gr s)) := ⟨rfl, rfl, rfl, Imp.refl _, rfl, Nat.lt_succ_self _, h⟩
def S130 (s : List ByteArray) (v1 : ByteArray) : Spec := ⟨[.r (.c (.l 1 eStr s)), .r (.c (.v (.string v1)))], .v (vI (F130 s v1)), True⟩
theorem ok130 (s : List ByteArray) (v1 : ByteArray) : (S130 s v1).ok Tryz.prog 130 :=
 Ql mixed (fn := Tryz.f130) (ct := .seqk [(0, 0)] .no (.seq (.seqk [(0, 0)] .no (.blk (.loop (ι := Nat × Int) (fun i => (fun (v8 : Int) => (⟨[(0, some (.h 0 0)), (1, some (.v (.string v1))), (7, some (.v (vI (s.length : Int)))), (8, some (.v (vI v8)))], [(0, some (.shr none (.l 1 eStr s)))], 1⟩ : St)) i.2) (Ho s v1) (fun i => i.1) (Gr s) (fun i => (fun (v8 : Int) => (.seq .no (.seq (.cond .no .no) (.seq (.blk (.seq .no (.seq .no (.cond (.seq .no .no) .no)))) (.reg [(0, .bnd)]))))) i.2)))) (.seq .no .no))) Tryz.func130 (fun (_ : True) => kn s fun _ => kn s fun _ => ai (Qyv s v1 (by omega)) (fun (i0 : Nat × Int) (hi0 : Ho s v1 i0) => (fun (m0 : Nat) (v8 : Int) (hh0 : Qmk s v1 i0 m0 v8) => have hI0 := hh0.1; have hl0 := hh0.2.1; have _ := hh0.2.2.1; have _ := hh0.2.2.2; ifd (v8 < (s.length : Int)) (fun h2 _ => ai (by omega : ib v8 s) (ifb (v1.toList == (s.getD (Int.toNat v8) default).toList) (fun h3 => fiI v8 (F130 s v1) (finR (Qt hI0 (condT h2 (condT h3 rfl))) rfl)) (fun h3 => ai (iok (v8 + 1) (by omega)) (Qyq s v1 i0 m0 (v8 + 1) hl0 (Qe hI0 (condT h2 (condF h3 rfl))) (by refine ⟨?_, ?_⟩ <;> omega))))) (fun h2 _ => have hD0_4 : Qmc s v1 = Lp.done v8 := Qk hI0 (condF h2 rfl); fiI (-1) (F130 s v1) (finD hD0_4 rfl))) (i0.1 - 1) i0.2 (Qyw s v1 i0 hi0))) (by kernel_rfl)
theorem kc130 (s : List ByteArray) (v1 : ByteArray) {K_ : Prop} (k_ : K_) : (True) ∧ (Imp (.l 1 eStr s) (.l 1 eStr s)) ∧ (Imp (.v (.string v1)) (.v (.string v1))) ∧ K_ := ⟨trivial, Imp.refl _, Imp.refl _, k_⟩
abbrev kh130 (s : List ByteArray) (v1 : ByteArray) : Hint true Tryz.prog := .call 130 (S130 s v1) (ok130 s v1) none
def F112 (s : List ByteArray) (v1 : ByteArray) : Bool :=
 decide ((F130 s v1) ≥ 0)
def S112 (s : List ByteArray) (v1 : ByteArray) : Spec := ⟨[.r (.c (.l 1 eStr s)), .r (.c (.v (.string v1)))], .v (.bool (F112 s v1)), True⟩
theorem ok112 (s : List ByteArray) (v1 : ByteArray) : (S112 s v1).ok Tryz.prog 112 :=
 Ql mixed (fn := Tryz.f112) (ct := .seqk [(0, 0)] .no (.seq (.reg [(2, kh130 s v1)]) .no)) Tryz.func112 (fun (_ : True) => kn s fun _ => kc130 s v1 (fiB (decide ((F130 s v1) ≥ 0)) (F112 s v1) rfl)) (by kernel_rfl)
theorem kc62 (s : ByteArray) (sep : ByteArray) {K_ : Prop} (p0_ : s.size ≤ 4294967280) (p1_ : 1 ≤ sep.size) (q0_ : 1 ≤ sep.size) (q1_ : 1 ≤ sep.size) (k_ : ((F62 s sep).length ≤ s.size + 1) → (1 ≤ (F62 s sep).length) → K_) : (s.size ≤ 4294967280 ∧ 1 ≤ sep.size) ∧ (Imp (.v (.string s)) (.v (.string s))) ∧ (Imp (.v (.string sep)) (.v (.string sep))) ∧ K_ := ⟨⟨p0_, p1_⟩, Imp.refl _, Imp.refl _, k_ (Qnx s sep q0_) (Qja s sep q1_)⟩
abbrev kh62 (s : ByteArray) (sep : ByteArray) : Hint true Tryz.prog := .call 62 (S62 s sep) (ok62 s sep) none
theorem kc112 (s : List ByteArray) (v1 : ByteArray) {K_ : Prop} (k_ : K_) : (True) ∧ (Imp (.l 1 eStr s) (.l 1 eStr s)) ∧ (Imp (.v (.string v1)) (.v (.string v1))) ∧ K_ := ⟨trivial, Imp.refl _, Imp.refl _, k_⟩
abbrev kh112 (s : List ByteArray) (v1 : ByteArray) : Hint true Tryz.prog := .call 112 (S112 s v1) (ok112 s v1) none
abbrev w2_ : ByteArray := ⟨#[44]⟩
abbrev w3_ : ByteArray := ⟨#[100, 111, 111, 114]⟩
abbrev w4_ : ByteArray := ⟨#[104, 111, 115, 116]⟩
abbrev w5_ : ByteArray := ⟨#[110, 97, 116]⟩
abbrev w6_ : ByteArray := ⟨#[112, 101, 101, 114]⟩
abbrev w7_ : ByteArray := ⟨#[112, 111, 114, 116]⟩
abbrev w8_ : ByteArray := ⟨#[114, 111, 117, 116, 101]⟩
abbrev w9_ : ByteArray := ⟨#[114, 117, 108, 101]⟩
abbrev w10_ : ByteArray := ⟨#[117, 115, 101, 114]⟩
abbrev w11_ : ByteArray := ⟨#[97, 108, 108]⟩
abbrev w12_ : ByteArray := ⟨#[110, 111, 110, 101]⟩
def Wl (word : ByteArray) : Int → Lp Int (List ByteArray × Bool) := fun v19 =>
 bif (decide (v19 < ((F62 word (⟨#[44]⟩ : ByteArray)).length : Int))) then (bif (bif (!(F112 ([(⟨#[100, 111, 111, 114]⟩ : ByteArray), (⟨#[104, 111, 115, 116]⟩ : ByteArray), (⟨#[110, 97, 116]⟩ : ByteArray), (⟨#[112, 101, 101, 114]⟩ : ByteArray), (⟨#[112, 111, 114, 116]⟩ : ByteArray), (⟨#[114, 111, 117, 116, 101]⟩ : ByteArray), (⟨#[114, 117, 108, 101]⟩ : ByteArray), (⟨#[117, 115, 101, 114]⟩ : ByteArray)] : List ByteArray) ((F62 word (⟨#[44]⟩ : ByteArray)).getD (Int.toNat v19) default))) then true else (bif decide (v19 > 0) then (!(Op.bytesLess ((F62 word (⟨#[44]⟩ : ByteArray)).getD (Int.toNat (v19 - 1)) default).toList ((F62 word (⟨#[44]⟩ : ByteArray)).getD (Int.toNat v19) default).toList)) else false)) then (.ret (([] : List ByteArray), false)) else (.next (v19 + 1))) else (.done v19)
def F110 (word : ByteArray) : List ByteArray × Bool :=
 bif (bif (word.toList == (⟨#[97, 108, 108]⟩ : ByteArray).toList) then true else (word.toList == (⟨#[110, 111, 110, 101]⟩ : ByteArray).toList)) then (([word] : List ByteArray), true) else ((runL (Wl word) ((Int.toNat (((F62 word (⟨#[44]⟩ : ByteArray)).length : Int) - 0)) + 1) 0).fin (fun r => r) (fun v19 => ((F62 word (⟨#[44]⟩ : ByteArray)), true)))
abbrev Hr (word : ByteArray) : Nat × Int := (((Int.toNat (((F62 word w2_).length : Int) - 0)) + 1), 0)
abbrev Qdd (word : ByteArray) (m39 : Nat) (v19 : Int) : Prop := Int.toNat (((F62 word w2_).length : Int) - v19) < m39 ∧ (0 : Int) ≤ v19
abbrev Qlk (word : ByteArray) : Lp Int (List ByteArray × Bool) := LpX (Wl word) (Hr word)
abbrev Gn (word : ByteArray) (i : Nat × Int) : Prop := LpJ (Wl word) (Hr word) i (Qdd word i.1 i.2)
abbrev Qkz (word : ByteArray) (i : Nat × Int) (m39 : Nat) (v19 : Int) : Prop := LpH (Wl word) (Hr word) i m39 v19 (Qdd word (m39 + 1) v19)
abbrev Qnf (word : ByteArray) (v19 : Int) (v19_ : Int) (K39 : Prop) : Prop := (Rf (.int .i64 ((F62 word w2_).length : Int))) ∧ ((.int .i64 v19 : Value) = .int .i64 v19_) ∧ (Im (.l 1 eStr (F62 word w2_))) ∧ K39
theorem Qze (word : ByteArray) (i : Nat × Int) (h : Gn word i) : Qkz word i (i.1 - 1) i.2 := ⟨hd1 h.1 h.2.1, hd3 h.2.1, hd2 h.2.1, h.2.2⟩
theorem Qxk (word : ByteArray) (i : Nat × Int) (m39 : Nat) (v19 : Int) (hl : m39 < i.1) (e : runL (Wl word) m39 v19 = Qlk word) (h : Qdd word m39 v19) : ∃ j : Nat × Int, Qnf word v19 j.2 (Gn word j ∧ j.1 < i.1) := ⟨(m39, v19), rfl, rfl, Imp.refl _, ⟨e, h⟩, hl⟩
theorem Qzg (word : ByteArray) (h : (0 : Int) ≤ 0) : Qnf word 0 0 (Gn word (Hr word)) := ⟨rfl, rfl, Imp.refl _, rfl, Nat.lt_succ_self _, h⟩
theorem fi110 (word : ByteArray) (r : List ByteArray × Bool) (hF : r = (F110 word)) : (Imp (.l 1 eStr r.1) (.l 1 eStr ((F110 word).1))) ∧ ((.bool r.2 : Value) = .bool ((F110 word).2)) ∧ True := by cases hF; exact ⟨Imp.refl _, rfl, trivial⟩
def S110 (word : ByteArray) : Spec := ⟨[.r (.c (.v (.string word)))], .tu [.ow (.l 1 eStr ((F110 word).1)), .v (.bool ((F110 word).2))], word.size ≤ 1048576⟩
theorem ok110 (word : ByteArray) : (S110 word).ok Tryz.prog 110 :=
 Ql mixed (fn := Tryz.f110) (ct := .seq .no (.seq (.seq .no (.cond (.seq (.reg [(1, .dat (.l 1 eStr ([word] : List ByteArray)))]) .no) .no)) (.seq (.reg [(1, kh62 word w2_)]) (.seq (.seqk [(4, 0), (17, 0)] .no (.blk (.loop (ι := Nat × Int) (fun i => (fun (v19 : Int) => (⟨[(4, some (.h 0 0)), (17, some (.h 0 0)), (18, some (.v (vI ((F62 word w2_).length : Int)))), (19, some (.v (vI v19)))], [(0, some (.own 0 (.l 1 eStr (F62 word w2_))))], 1⟩ : St)) i.2) (Gn word) (fun i => i.1) (Hr word) (fun i => (fun (v19 : Int) => (.seq .no (.seq (.cond .no .no) (.seq (.blk (.seq .no (.seq (.reg [(0, .dat (.l 1 eStr ([w3_, w4_, w5_, w6_, w7_, w8_, w9_, w10_] : List ByteArray))), (2, kh112 ([w3_, w4_, w5_, w6_, w7_, w8_, w9_, w10_] : List ByteArray) ((F62 word w2_).getD (Int.toNat v19) default)), (10, .bnd)]) (.cond (.seq .no .no) .no)))) (.reg [(0, .bnd)]))))) i.2)))) (.seq .no .no))))) Tryz.func110 (fun (hpre0 : word.size ≤ 1048576) => ifb (bif (word.toList == w11_.toList) then true else (word.toList == w12_.toList)) (fun h1 => ai (bokr 1 eStr ([word] : List ByteArray) fun _ => rfl) (fi110 word (([word] : List ByteArray), true) (condT h1 rfl))) (fun h1 => have _ : (word.toList == w11_.toList) = false := (orF1 h1); have _ : (word.toList == w12_.toList) = false := (orF2 h1); kc62 word w2_ (by omega) (by decide) (by decide) (by decide) (fun gv2 gv3 => kn (F62 word w2_) fun _ => kn (F62 word w2_) fun _ => ai (Qzg word (by omega)) (fun (i0 : Nat × Int) (hi0 : Gn word i0) => (fun (m0 : Nat) (v19 : Int) (hh0 : Qkz word i0 m0 v19) => have hI0 := hh0.1; have hl0 := hh0.2.1; have _ := hh0.2.2.1; have _ := hh0.2.2.2; ifd (v19 < ((F62 word w2_).length : Int)) (fun h5 _ => ai (by omega : ib v19 (F62 word w2_)) (ai (bokr 1 eStr ([w3_, w4_, w5_, w6_, w7_, w8_, w9_, w10_] : List ByteArray) fun _ => rfl) (kc112 ([w3_, w4_, w5_, w6_, w7_, w8_, w9_, w10_] : List ByteArray) ((F62 word w2_).getD (Int.toNat v19) default) (ai (fun k7 : (decide (v19 > 0)) = true => have _ := of_decide_eq_true k7; (fun k6 : (!(F112 ([w3_, w4_, w5_, w6_, w7_, w8_, w9_, w10_] : List ByteArray) ((F62 word w2_).getD (Int.toNat v19) default))) = false => iok (v19 - 1) (by omega))) (ai (fun k9 : (decide (v19 > 0)) = true => have _ := of_decide_eq_true k9; (fun k8 : (!(F112 ([w3_, w4_, w5_, w6_, w7_, w8_, w9_, w10_] : List ByteArray) ((F62 word w2_).getD (Int.toNat v19) default))) = false => (by omega : ib (v19 - 1) (F62 word w2_)))) (ifb (bif (!(F112 ([w3_, w4_, w5_, w6_, w7_, w8_, w9_, w10_] : List ByteArray) ((F62 word w2_).getD (Int.toNat v19) default))) then true else (bif decide (v19 > 0) then (!(Op.bytesLess ((F62 word w2_).getD (Int.toNat (v19 - 1)) default).toList ((F62 word w2_).getD (Int.toNat v19) default).toList)) else false)) (fun h10 => (fun hF : (([] : List ByteArray), false) = (F110 word) => ai ((Imp.nil 1 eStr).trans (Imp.of_eq (congrArg (fun r : List ByteArray × Bool => Dat.l 1 eStr r.1) hF))) (ai (congrArg (fun r : List ByteArray × Bool => (.bool r.2 : Value)) hF) trivial)) (condF h1 (finR (Qt hI0 (condT h5 (condT h10 rfl))) rfl))) (fun h10 => ai (iok (v19 + 1) (by omega)) (Qxk word i0 m0 (v19 + 1) hl0 (Qe hI0 (condT h5 (condF h10 rfl))) (by refine ⟨?_, ?_⟩ <;> omega))))))))) (fun h5 _ => have hD0_11 : Qlk word = Lp.done v19 := Qk hI0 (condF h5 rfl); fi110 word ((F62 word w2_), true) (condF h1 (finD hD0_11 rfl)))) (i0.1 - 1) i0.2 (Qze word i0 hi0))))) (by kernel_rfl)
abbrev w13_ : ByteArray := ⟨#[]⟩
def F85 (w1 : ByteArray) : Bool :=
 (w1.toList == (⟨#[]⟩ : ByteArray).toList)
def S85 (w1 : ByteArray) : Spec := ⟨[.r (.c (.v (.string w1)))], .v (.bool (F85 w1)), True⟩
theorem ok85 (w1 : ByteArray) : (S85 w1).ok Tryz.prog 85 :=
 Ql mixed (fn := Tryz.f85) (ct := .seq .no (.seq .no .no)) Tryz.func85 (fun (_ : True) => fiB (w1.toList == w13_.toList) (F85 w1) rfl) (by kernel_rfl)
def Yu (Q : ByteArray → Prop) (p : ByteArray → Bool) : Uw := ⟨ByteArray, fun i => [.c (.x (PX (.v (.string i)) (Q i)))], fun i => .bool (p i)⟩
def Lt (s : List ByteArray) (f : ByteArray → Bool) : Int → Lp Int Int := fun v8 =>
 bif (decide (v8 < (s.length : Int))) then (bif (f (s.getD (Int.toNat v8) default)) then (.ret v8) else (.next (v8 + 1))) else (.done v8)
def F60 (s : List ByteArray) (f : ByteArray → Bool) : Int :=
 (runL (Lt s f) ((Int.toNat ((s.length : Int) - 0)) + 1) 0).fin (fun r => r) (fun v8 => (-1))
abbrev Tk (s : List ByteArray) : Nat × Int := (((Int.toNat ((s.length : Int) - 0)) + 1), 0)
abbrev Qhr (s : List ByteArray) (m39 : Nat) (v8 : Int) : Prop := Int.toNat ((s.length : Int) - v8) < m39 ∧ (0 : Int) ≤ v8
abbrev Qow (s : List ByteArray) (f : ByteArray → Bool) : Lp Int Int := LpX (Lt s f) (Tk s)
abbrev En (s : List ByteArray) (f : ByteArray → Bool) (i : Nat × Int) : Prop := LpJ (Lt s f) (Tk s) i (Qhr s i.1 i.2)
abbrev Qtu (s : List ByteArray) (f : ByteArray → Bool) (i : Nat × Int) (m39 : Nat) (v8 : Int) : Prop := LpH (Lt s f) (Tk s) i m39 v8 (Qhr s (m39 + 1) v8)
abbrev Qqw (Qf : ByteArray → Prop) (s : List ByteArray) (f : ByteArray → Bool) (v8 : Int) (v8_ : Int) (K39 : Prop) : Prop := (Rf (.int .i64 (s.length : Int))) ∧ ((.int .i64 v8 : Value) = .int .i64 v8_) ∧ (Im (.l 1 eStr s)) ∧ (Yu Qf f = Yu Qf f) ∧ K39
theorem un60_0 (s : List ByteArray) (f : ByteArray → Bool) (i : Nat × Int) (h : En s f i) : Qtu s f i (i.1 - 1) i.2 := ⟨hd1 h.1 h.2.1, hd3 h.2.1, hd2 h.2.1, h.2.2⟩
theorem bk60_0 (Qf : ByteArray → Prop) (s : List ByteArray) (f : ByteArray → Bool) (i : Nat × Int) (m39 : Nat) (v8 : Int) (hl : m39 < i.1) (e : runL (Lt s f) m39 v8 = Qow s f) (h : Qhr s m39 v8) : ∃ j : Nat × Int, Qqw Qf s f v8 j.2 (En s f j ∧ j.1 < i.1) := ⟨(m39, v8), rfl, rfl, Imp.refl _, rfl, ⟨e, h⟩, hl⟩
theorem en60_0 (Qf : ByteArray → Prop) (s : List ByteArray) (f : ByteArray → Bool) (h : (0 : Int) ≤ 0) : Qqw Qf s f 0 0 (En s f (Tk s)) := ⟨rfl, rfl, Imp.refl _, rfl, rfl, Nat.lt_succ_self _, h⟩
def S60 (R : Int) (s : List ByteArray) (f : ByteArray → Bool) (Qf : ByteArray → Prop) : Spec := ⟨[.r (.c (.l 1 eStr s)), .fn (Yu Qf f)], .v (vI R), (∀ k : Nat, k < s.length → Qf (s.getD k default))⟩
theorem ok60 (s : List ByteArray) (f : ByteArray → Bool) (Qf : ByteArray → Prop) : (S60 (F60 s f) s f Qf).ok Tryz.prog 60 false :=
 Ql mixed (fn := Tryz.f60) (ct := .seqk [(0, 0)] .no (.seq (.seqk [(0, 0)] .no (.blk (.loop (ι := Nat × Int) (fun i => (fun (v8 : Int) => (⟨[(0, some (.h 0 0)), (1, some (.h 1 0)), (7, some (.v (vI (s.length : Int)))), (8, some (.v (vI v8)))], [(0, some (.shr none (.l 1 eStr s))), (1, some (.fn (Yu Qf f)))], 2⟩ : St)) i.2) (En s f) (fun i => i.1) (Tk s) (fun i => (fun (v8 : Int) => (.seq .no (.seq (.cond .no .no) (.seq (.blk (.seq .no (.seq (.reg [(5, .fnv (Yu Qf f) (s.getD (Int.toNat v8) default))]) (.cond (.seq .no .no) .no)))) (.reg [(0, .bnd)]))))) i.2)))) (.seq .no .no))) Tryz.func60 (fun (hpre0 : ∀ k : Nat, k < s.length → Qf (s.getD k default)) => kn s fun _ => kn s fun _ => ai (en60_0 Qf s f (by omega)) (fun (i0 : Nat × Int) (hi0 : En s f i0) => (fun (m0 : Nat) (v8 : Int) (hh0 : Qtu s f i0 m0 v8) => have hI0 := hh0.1; have hl0 := hh0.2.1; have _ := hh0.2.2.1; have _ := hh0.2.2.2; ifd (v8 < (s.length : Int)) (fun h2 _ => ai (by omega : ib v8 s) (ai (Eq.refl (Yu Qf f)) (ai (Imp.px (d := .v (.string (s.getD (Int.toNat v8) default))) (hpre0 (Int.toNat v8) (by omega))) (ifb (f (s.getD (Int.toNat v8) default)) (fun h3 => fiI v8 (F60 s f) (finR (Qt hI0 (condT h2 (condT h3 rfl))) rfl)) (fun h3 => ai (iok (v8 + 1) (by omega)) (bk60_0 Qf s f i0 m0 (v8 + 1) hl0 (Qe hI0 (condT h2 (condF h3 rfl))) (by refine ⟨?_, ?_⟩ <;> omega))))))) (fun h2 _ => have hD0_4 : Qow s f = Lp.done v8 := Qk hI0 (condF h2 rfl); fiI (-1) (F60 s f) (finD hD0_4 rfl))) (i0.1 - 1) i0.2 (un60_0 s f i0 hi0))) (by kernel_rfl)
theorem as60 (s : List ByteArray) (f : ByteArray → Bool) : F60 s f = (idxI f s) := by
 exact Jj f s (Lt s f) (fun i => rfl)
theorem oa60 (s : List ByteArray) (f : ByteArray → Bool) (Qf : ByteArray → Prop) : (S60 (idxI f s) s f Qf).ok Tryz.prog 60 false := by
 intro hp; have h := ok60 s f Qf hp; rw [as60 s f] at h; exact h
theorem g60_0 (s : List ByteArray) (f : ByteArray → Bool) : (idxI f s) < (s.length : Int) := by
 exact Gw f s
theorem g60_1 (s : List ByteArray) (f : ByteArray → Bool) : -1 ≤ (idxI f s) := by
 (show -1 ≤ idxI f s; unfold idxI; cases first (fun k => f (s.getD k default)) s.length <;> simp only [oix] <;> omega)
theorem kc60a (s : List ByteArray) (f : ByteArray → Bool) (Qf : ByteArray → Prop) {K_ : Prop} (p0_ : ∀ k : Nat, k < s.length → Qf (s.getD k default)) (k_ : ((idxI f s) < (s.length : Int)) → (-1 ≤ (idxI f s)) → K_) : (∀ k : Nat, k < s.length → Qf (s.getD k default)) ∧ (Imp (.l 1 eStr s) (.l 1 eStr s)) ∧ (Yu Qf f = Yu Qf f) ∧ K_ := ⟨p0_, Imp.refl _, rfl, k_ (g60_0 s f) (g60_1 s f)⟩
abbrev kh60a (s : List ByteArray) (f : ByteArray → Bool) (Qf : ByteArray → Prop) : Hint false Tryz.prog := .call 60 (S60 (idxI f s) s f Qf) (oa60 s f Qf) none
def Ly (s : List ByteArray) (del : ByteArray → Bool) : (Int × Int × List ByteArray) → Lp (Int × Int × List ByteArray) (List ByteArray) := fun (i41, j1, xs) =>
 bif (decide (j1 < (xs.length : Int))) then (bif (!(del (xs.getD (Int.toNat j1) default))) then (.next ((i41 + 1), (j1 + 1), (xs.set (i41).toNat (xs.getD (Int.toNat j1) default)))) else (.next (i41, (j1 + 1), xs))) else (.done (i41, j1, xs))
def Qej (s : List ByteArray) (del : ByteArray → Bool) : Lp (List ByteArray × Int) (List ByteArray) :=
 (runL (Ly s del) ((Int.toNat ((s.length : Int) - ((idxI del s) + 1))) + 1) ((idxI del s), ((idxI del s) + 1), s)).fin Lp.ret (fun (i41, j1, xs) => .done (xs, i41))
def F84 (s : List ByteArray) (del : ByteArray → Bool) : List ByteArray :=
 bif ((idxI del s) == (-1)) then s else ((Qej s del).fin (fun r => r) (fun (s1, i40) => ((s1.take (Int.toNat i40) ++ List.replicate (s1.drop (Int.toNat i40)).length ((⟨#[]⟩ : ByteArray) : ByteArray) ++ s1.drop ((Int.toNat i40) + (s1.drop (Int.toNat i40)).length)).take (Int.toNat i40))))
abbrev Pq (s : List ByteArray) (del : ByteArray → Bool) : Nat × (Int × Int × List ByteArray) := (((Int.toNat ((s.length : Int) - ((idxI del s) + 1))) + 1), ((idxI del s), ((idxI del s) + 1), s))
abbrev Qhe (Qdel : ByteArray → Prop) (s : List ByteArray) (m39 : Nat) (i41 : Int) (j1 : Int) (xs : List ByteArray) : Prop := Int.toNat ((xs.length : Int) - j1) < m39 ∧ (0 ≤ i41 ∧ i41 < j1) ∧ j1 ≤ (xs.length : Int) ∧ xs.length ≤ 1000000000 ∧ (∀ k : Nat, j1 ≤ (k : Int) → k < xs.length → Qdel (xs.getD k default)) ∧ xs.length = s.length
abbrev Qtc (s : List ByteArray) (del : ByteArray → Bool) : Lp (Int × Int × List ByteArray) (List ByteArray) := LpX (Ly s del) (Pq s del)
abbrev Ek (Qdel : ByteArray → Prop) (s : List ByteArray) (del : ByteArray → Bool) (i : Nat × (Int × Int × List ByteArray)) : Prop := LpJ (Ly s del) (Pq s del) i (Qhe Qdel s i.1 i.2.1 i.2.2.1 i.2.2.2)
abbrev Quh (Qdel : ByteArray → Prop) (s : List ByteArray) (del : ByteArray → Bool) (i : Nat × (Int × Int × List ByteArray)) (m39 : Nat) (i41 : Int) (j1 : Int) (xs : List ByteArray) : Prop := LpH (Ly s del) (Pq s del) i m39 (i41, j1, xs) (Qhe Qdel s (m39 + 1) i41 j1 xs)
abbrev Qum (Qdel : ByteArray → Prop) (del : ByteArray → Bool) (i41 : Int) (j1 : Int) (xs : List ByteArray) (i41_ : Int) (j1_ : Int) (xs_ : List ByteArray) (K39 : Prop) : Prop := ((.int .i64 i41 : Value) = .int .i64 i41_) ∧ ((.int .i64 j1 : Value) = .int .i64 j1_) ∧ (Imp (.l 1 eStr xs) (.l 1 eStr xs_)) ∧ (Yu Qdel del = Yu Qdel del) ∧ K39
theorem un84_0 (Qdel : ByteArray → Prop) (s : List ByteArray) (del : ByteArray → Bool) (i : Nat × (Int × Int × List ByteArray)) (h : Ek Qdel s del i) : Quh Qdel s del i (i.1 - 1) i.2.1 i.2.2.1 i.2.2.2 := ⟨hd1 h.1 h.2.1, hd3 h.2.1, hd2 h.2.1, h.2.2⟩
theorem Qre (Qdel : ByteArray → Prop) (s : List ByteArray) (del : ByteArray → Bool) (i : Nat × (Int × Int × List ByteArray)) (m39 : Nat) (i41 : Int) (j1 : Int) (xs : List ByteArray) (hl : m39 < i.1) (e : runL (Ly s del) m39 (i41, j1, xs) = Qtc s del) (h : Qhe Qdel s m39 i41 j1 xs) : ∃ j : Nat × (Int × Int × List ByteArray), Qum Qdel del i41 j1 xs j.2.1 j.2.2.1 j.2.2.2 (Ek Qdel s del j ∧ j.1 < i.1) := ⟨(m39, (i41, j1, xs)), rfl, rfl, Imp.refl _, rfl, ⟨e, h⟩, hl⟩
theorem en84_0 (Qdel : ByteArray → Prop) (s : List ByteArray) (del : ByteArray → Bool) (h : (0 ≤ (idxI del s) ∧ (idxI del s) < ((idxI del s) + 1)) ∧ ((idxI del s) + 1) ≤ (s.length : Int) ∧ s.length ≤ 1000000000 ∧ (∀ k : Nat, ((idxI del s) + 1) ≤ (k : Int) → k < s.length → Qdel (s.getD k default)) ∧ s.length = s.length) : Qum Qdel del (idxI del s) ((idxI del s) + 1) s (idxI del s) ((idxI del s) + 1) s (Ek Qdel s del (Pq s del)) := ⟨rfl, rfl, Imp.refl _, rfl, rfl, Nat.lt_succ_self _, h⟩
abbrev Qkx (s : List ByteArray) (del : ByteArray → Bool) (s1 : List ByteArray) (i40 : Int) : Prop := (0 ≤ i40 ∧ i40 ≤ (s1.length : Int)) ∧ True
abbrev Qjd (s : List ByteArray) (del : ByteArray → Bool) (j : List ByteArray × Int) : Prop := (Qej s del) = Lp.done j ∧ Qkx s del j.1 j.2
theorem jn84_0 (s : List ByteArray) (del : ByteArray → Bool) (s1 : List ByteArray) (i40 : Int) (e : (Qej s del) = Lp.done (s1, i40)) (h : Qkx s del s1 i40) : ∃ j : List ByteArray × Int, ((.int .i64 i40 : Value) = .int .i64 j.2) ∧ (Imp (.l 1 eStr s1) (.l 1 eStr j.1)) ∧ Qjd s del j := ⟨(s1, i40), rfl, Imp.refl _, e, h⟩
theorem fi84 (s : List ByteArray) (del : ByteArray → Bool) (r : List ByteArray) (hF : r = (F84 s del)) : (Imp (.l 1 eStr r) (.l 1 eStr (F84 s del))) ∧ True := by cases hF; exact ⟨Imp.refl _, trivial⟩
def S84 (R : List ByteArray) (s : List ByteArray) (del : ByteArray → Bool) (Qdel : ByteArray → Prop) : Spec := ⟨[.ow (.l 1 eStr s) none, .fn (Yu Qdel del)], .ow (.l 1 eStr R), s.length ≤ 1000000000 ∧ (∀ k : Nat, k < s.length → Qdel (s.getD k default))⟩
theorem ok84 (s : List ByteArray) (del : ByteArray → Bool) (Qdel : ByteArray → Prop) : (S84 (F84 s del) s del Qdel).ok Tryz.prog 84 false :=
 Ql mixed (fn := Tryz.f84) (ct := .seqk [(0, 0)] .no (.seq (.reg [(2, kh60a s del Qdel)]) (.seq (.seq .no (.cond (.seq .no .no) .no)) (.cut (ι := List ByteArray × Int) (fun j => (fun (s1 : List ByteArray) (i40 : Int) => (⟨[(0, some (.h 0 0)), (5, some (.v (vI i40)))], [(0, some (.own 0 (.l 1 eStr s1)))], 1⟩ : St)) j.1 j.2) (Qjd s del) (.seqk [(0, 0)] (.reg [(1, .bnd)]) (.blk (.loop (ι := Nat × (Int × Int × List ByteArray)) (fun i => (fun (i41 : Int) (j1 : Int) (xs : List ByteArray) => (⟨[(0, some (.h 0 0)), (1, some (.h 1 0)), (5, some (.v (vI i41))), (6, some (.v (vI j1)))], [(0, some (.own 0 (.l 1 eStr xs))), (1, some (.fn (Yu Qdel del)))], 2⟩ : St)) i.2.1 i.2.2.1 i.2.2.2) (Ek Qdel s del) (fun i => i.1) (Pq s del) (fun i => (fun (i41 : Int) (j1 : Int) (xs : List ByteArray) => (.seq (.seq .no (.cond .no .no)) (.seq (.blk (.seq .no (.seq (.reg [(2, .fnv (Yu Qdel del) (xs.getD (Int.toNat j1) default))]) (.cond (.seq (.reg [(4, .dat (.l 1 eStr (xs.set (i41).toNat (xs.getD (Int.toNat j1) default))))]) (.reg [(1, .bnd)])) .no)))) (.reg [(1, .bnd)])))) i.2.1 i.2.2.1 i.2.2.2)))) (fun j => (fun (s1 : List ByteArray) (i40 : Int) => (.seq (.reg [(2, .part), (3, .dat (.l 1 eStr (s1.take (Int.toNat i40) ++ List.replicate (s1.drop (Int.toNat i40)).length (w13_ : ByteArray) ++ s1.drop ((Int.toNat i40) + (s1.drop (Int.toNat i40)).length))))]) (.seq (.reg [(2, .own)]) .no))) j.1 j.2))))) Tryz.func84 (fun (hp : s.length ≤ 1000000000 ∧ (∀ k : Nat, k < s.length → Qdel (s.getD k default))) => have hpre0 := hp.1; have hpre1 := hp.2; kn s fun _ => kc60a s del Qdel (by first | assumption | exact hpre1 _ | exact fun k _ => hpre1 k | (intros; exact trivial) | (intros; exact Nat.zero_le _)) (fun gv1 gv2 => ife (idxI del s) (-1) (fun h3 _ => fi84 s del s (condT h3 rfl)) (fun h3 _ => ai (ai (iok ((idxI del s) + 1) (by first | omega | (simp only [lens, ib] at * <;> omega))) (kn s fun _ => ai (en84_0 Qdel s del (by refine ⟨?_, ?_, ?_, ?_, ?_⟩ <;> first | omega | (simp only [lens, ib] at * <;> omega) | (intro k hk hk2; first | exact (by assumption : ∀ k : Nat, k < s.length → Qdel (s.getD k default)) k hk2 | exact (by assumption : ∀ k : Nat, j1 ≤ (k : Int) → k < xs.length → Qdel (xs.getD k default)) k (by first | omega | (simp only [lens, ib] at * <;> omega)) hk2 | (rw [Qu _ _ _ _ (by first | omega | (simp only [lens, ib] at * <;> omega))]; exact (by assumption : ∀ k : Nat, j1 ≤ (k : Int) → k < xs.length → Qdel (xs.getD k default)) k (by first | omega | (simp only [lens, ib] at * <;> omega)) (by simpa using hk2))))) (fun (i0 : Nat × (Int × Int × List ByteArray)) (hi0 : Ek Qdel s del i0) => (fun (m0 : Nat) (i41 : Int) (j1 : Int) (xs : List ByteArray) (hh0 : Quh Qdel s del i0 m0 i41 j1 xs) => have hI0 := hh0.1; have hl0 := hh0.2.1; have _ := hh0.2.2.1; have _ := hh0.2.2.2.1; have _ := hh0.2.2.2.2.1; have _ := hh0.2.2.2.2.2.1; have _ := hh0.2.2.2.2.2.2.1; have _ := hh0.2.2.2.2.2.2.2; ifd (j1 < (xs.length : Int)) (fun h5 _ => ai (by first | omega | (simp only [lens, ib] at * <;> omega) : ib j1 xs) (ai (Eq.refl (Yu Qdel del)) (ai (Imp.px (d := .v (.string (xs.getD (Int.toNat j1) default))) ((by assumption : ∀ k : Nat, j1 ≤ (k : Int) → k < xs.length → Qdel (xs.getD k default)) (Int.toNat j1) (by first | omega | (simp only [lens, ib] at * <;> omega)) (by first | omega | (simp only [lens, ib] at * <;> omega)))) (ifb (!(del (xs.getD (Int.toNat j1) default))) (fun h6 => have _ := (Wr h6); ai (by first | omega | (simp only [lens, ib] at * <;> omega) : ib i41 xs) (ai (setr 1 eStr xs (i41).toNat (xs.getD (Int.toNat j1) default)) (ai (iok (i41 + 1) (by first | omega | (simp only [lens, ib] at * <;> omega))) (ai (iok (j1 + 1) (by first | omega | (simp only [lens, ib] at * <;> omega))) (Qre Qdel s del i0 m0 (i41 + 1) (j1 + 1) (xs.set (i41).toNat (xs.getD (Int.toNat j1) default)) hl0 (Qe hI0 (condT h5 (condT h6 rfl))) (by refine ⟨?_, ?_, ?_, ?_, ?_, ?_⟩ <;> first | omega | (simp only [lens, ib] at * <;> omega) | (intro k hk hk2; first | exact (by assumption : ∀ k : Nat, k < s.length → Qdel (s.getD k default)) k hk2 | exact (by assumption : ∀ k : Nat, j1 ≤ (k : Int) → k < xs.length → Qdel (xs.getD k default)) k (by first | omega | (simp only [lens, ib] at * <;> omega)) hk2 | (rw [Qu _ _ _ _ (by first | omega | (simp only [lens, ib] at * <;> omega))]; exact (by assumption : ∀ k : Nat, j1 ≤ (k : Int) → k < xs.length → Qdel (xs.getD k default)) k (by first | omega | (simp only [lens, ib] at * <;> omega)) (by simpa using hk2))))))))) (fun h6 => have _ := (Yl h6); ai (iok (j1 + 1) (by first | omega | (simp only [lens, ib] at * <;> omega))) (Qre Qdel s del i0 m0 i41 (j1 + 1) xs hl0 (Qe hI0 (condT h5 (condF h6 rfl))) (by refine ⟨?_, ?_, ?_, ?_, ?_, ?_⟩ <;> first | omega | (simp only [lens, ib] at * <;> omega) | (intro k hk hk2; first | exact (by assumption : ∀ k : Nat, k < s.length → Qdel (s.getD k default)) k hk2 | exact (by assumption : ∀ k : Nat, j1 ≤ (k : Int) → k < xs.length → Qdel (xs.getD k default)) k (by first | omega | (simp only [lens, ib] at * <;> omega)) hk2 | (rw [Qu _ _ _ _ (by first | omega | (simp only [lens, ib] at * <;> omega))]; exact (by assumption : ∀ k : Nat, j1 ≤ (k : Int) → k < xs.length → Qdel (xs.getD k default)) k (by first | omega | (simp only [lens, ib] at * <;> omega)) (by simpa using hk2)))))))))) (fun h5 _ => have hD0_7 : Qtc s del = Lp.done (i41, j1, xs) := Qk hI0 (condF h5 rfl); jn84_0 s del xs i41 (Eq.symm (finD hD0_7 rfl)) (by refine ⟨?_, ?_⟩ <;> first | exact trivial | first | omega | (simp only [lens, ib] at * <;> omega)))) (i0.1 - 1) i0.2.1 i0.2.2.1 i0.2.2.2 (un84_0 Qdel s del i0 hi0)))) (fun (j : List ByteArray × Int) (hj : Qjd s del j) => (fun (s1 : List ByteArray) (i40 : Int) (hJ0_8 : (Qej s del) = Lp.done (s1, i40)) (hw : Qkx s del s1 i40) => have _ := hw.1; ai (by first | omega | (simp only [lens, ib] at * <;> omega) : 0 ≤ i40 ∧ i40 ≤ (s1.length : Int) ∧ (s1.length : Int) ≤ (s1.length : Int)) (ai (ClearOK.mk eStr s1 (w13_ : ByteArray) rfl (fun y e he => by simp only [eStr, List.mem_cons, List.not_mem_nil, or_false] at he; rcases he with rfl <;> exact ⟨_, rfl⟩) : ClearOK (.l 1 eStr s1) (Int.toNat i40) (s1.drop (Int.toNat i40)).length 1 [.string w13_] (.l 1 eStr (s1.take (Int.toNat i40) ++ List.replicate (s1.drop (Int.toNat i40)).length (w13_ : ByteArray) ++ s1.drop ((Int.toNat i40) + (s1.drop (Int.toNat i40)).length)))) (ai (by first | omega | (simp only [lens, ib] at * <;> omega) : 0 ≤ (0 : Int) ∧ (0 : Int) ≤ i40 ∧ i40 ≤ ((s1.take (Int.toNat i40) ++ List.replicate (s1.drop (Int.toNat i40)).length (w13_ : ByteArray) ++ s1.drop ((Int.toNat i40) + (s1.drop (Int.toNat i40)).length)).length : Int)) (fi84 s del ((s1.take (Int.toNat i40) ++ List.replicate (s1.drop (Int.toNat i40)).length (w13_ : ByteArray) ++ s1.drop ((Int.toNat i40) + (s1.drop (Int.toNat i40)).length)).take (Int.toNat i40)) (condF h3 (finD hJ0_8 rfl)))))) j.1 j.2 hj.1 hj.2)))) (by kernel_rfl)
theorem as84 (s : List ByteArray) (del : ByteArray → Bool) : F84 s del = (s.filter (fun x => !(del x))) := by
 exact Qeu del s _ (Ly s del) (fun i j xs => rfl)
theorem oa84 (s : List ByteArray) (del : ByteArray → Bool) (Qdel : ByteArray → Prop) : (S84 (s.filter (fun x => !(del x))) s del Qdel).ok Tryz.prog 84 false := by
 intro hp; have h := ok84 s del Qdel hp; rw [as84 s del] at h; exact h
def F86 (w1 : ByteArray) : Bool :=
 decide ((w1.size : Int) > 24)
def S86 (w1 : ByteArray) : Spec := ⟨[.r (.c (.v (.string w1)))], .v (.bool (F86 w1)), True⟩
theorem ok86 (w1 : ByteArray) : (S86 w1).ok Tryz.prog 86 :=
 Ql mixed (fn := Tryz.f86) (ct := .seq .no (.seq .no .no)) Tryz.func86 (fun (_ : True) => fiB (decide ((w1.size : Int) > 24)) (F86 w1) rfl) (by kernel_rfl)
def F35 (s : List ByteArray) (f : ByteArray → Bool) : Bool :=
 decide ((idxI f s) ≥ 0)
def S35 (R : Bool) (s : List ByteArray) (f : ByteArray → Bool) (Qf : ByteArray → Prop) : Spec := ⟨[.r (.c (.l 1 eStr s)), .fn (Yu Qf f)], .v (.bool R), (∀ k : Nat, k < s.length → Qf (s.getD k default))⟩
theorem ok35 (s : List ByteArray) (f : ByteArray → Bool) (Qf : ByteArray → Prop) : (S35 (F35 s f) s f Qf).ok Tryz.prog 35 false :=
 Ql mixed (fn := Tryz.f35) (ct := .seqk [(0, 0)] .no (.seq (.reg [(2, kh60a s f Qf)]) .no)) Tryz.func35 (fun (hpre0 : ∀ k : Nat, k < s.length → Qf (s.getD k default)) => kn s fun _ => kc60a s f Qf (by first | assumption | exact hpre0 _ | exact fun k _ => hpre0 k | (intros; exact trivial) | (intros; exact Nat.zero_le _)) (fun gv1 gv2 => fiB (decide ((idxI f s) ≥ 0)) (F35 s f) rfl)) (by kernel_rfl)
theorem as35 (s : List ByteArray) (f : ByteArray → Bool) : F35 s f = (s.any f) := by
 exact Nc f s
theorem oa35 (s : List ByteArray) (f : ByteArray → Bool) (Qf : ByteArray → Prop) : (S35 (s.any f) s f Qf).ok Tryz.prog 35 false := by
 intro hp; have h := ok35 s f Qf hp; rw [as35 s f] at h; exact h
abbrev kh62f (s : ByteArray) (sep : ByteArray) : Hint false Tryz.prog := .call 62 (S62 s sep) ((ok62 s sep).to false) none
abbrev w14_ : ByteArray := ⟨#[35]⟩
abbrev w15_ : ByteArray := ⟨#[32]⟩
def Jd (line : ByteArray) : Int → Lp Int (List ByteArray × Bool) := fun i40 =>
 bif (decide (i40 < (((F66 line (⟨#[35]⟩ : ByteArray)).1).size : Int))) then (bif (!(decide (32 ≤ (IntKind.i64.wrap ((((F66 line (⟨#[35]⟩ : ByteArray)).1).data.getD (Int.toNat i40) 0).toNat : Int)) ∧ (IntKind.i64.wrap ((((F66 line (⟨#[35]⟩ : ByteArray)).1).data.getD (Int.toNat i40) 0).toNat : Int)) ≤ 126))) then (.ret (([] : List ByteArray), false)) else (.next (i40 + 1))) else (.done i40)
def F72 (line : ByteArray) : List ByteArray × Bool :=
 (runL (Jd line) ((Int.toNat ((((F66 line (⟨#[35]⟩ : ByteArray)).1).size : Int) - 0)) + 1) 0).fin (fun r => r) (fun i40 => bif (bif decide ((((F62 ((F66 line (⟨#[35]⟩ : ByteArray)).1) (⟨#[32]⟩ : ByteArray)).filter (fun x => !((fun (x0 : ByteArray) => F85 x0) x))).length : Int) > 8) then true else (((F62 ((F66 line (⟨#[35]⟩ : ByteArray)).1) (⟨#[32]⟩ : ByteArray)).filter (fun x => !((fun (x0 : ByteArray) => F85 x0) x))).any (fun (x0 : ByteArray) => F86 x0))) then (([] : List ByteArray), false) else (((F62 ((F66 line (⟨#[35]⟩ : ByteArray)).1) (⟨#[32]⟩ : ByteArray)).filter (fun x => !((fun (x0 : ByteArray) => F85 x0) x))), true))
abbrev Re (line : ByteArray) : Nat × Int := (((Int.toNat ((((F66 line w14_).1).size : Int) - 0)) + 1), 0)
abbrev Qhg (line : ByteArray) (m39 : Nat) (i40 : Int) : Prop := Int.toNat ((((F66 line w14_).1).size : Int) - i40) < m39 ∧ (0 : Int) ≤ i40
abbrev Qqv (line : ByteArray) : Lp Int (List ByteArray × Bool) := LpX (Jd line) (Re line)
abbrev Ns (line : ByteArray) (i : Nat × Int) : Prop := LpJ (Jd line) (Re line) i (Qhg line i.1 i.2)
abbrev Qvk (line : ByteArray) (i : Nat × Int) (m39 : Nat) (i40 : Int) : Prop := LpH (Jd line) (Re line) i m39 i40 (Qhg line (m39 + 1) i40)
abbrev Qse (line : ByteArray) (i40 : Int) (i40_ : Int) (K39 : Prop) : Prop := (Rf (.string ((F66 line w14_).1))) ∧ ((.int .i64 i40 : Value) = .int .i64 i40_) ∧ K39
theorem un72_0 (line : ByteArray) (i : Nat × Int) (h : Ns line i) : Qvk line i (i.1 - 1) i.2 := ⟨hd1 h.1 h.2.1, hd3 h.2.1, hd2 h.2.1, h.2.2⟩
theorem bk72_0 (line : ByteArray) (i : Nat × Int) (m39 : Nat) (i40 : Int) (hl : m39 < i.1) (e : runL (Jd line) m39 i40 = Qqv line) (h : Qhg line m39 i40) : ∃ j : Nat × Int, Qse line i40 j.2 (Ns line j ∧ j.1 < i.1) := ⟨(m39, i40), rfl, rfl, ⟨e, h⟩, hl⟩
theorem en72_0 (line : ByteArray) (h : (0 : Int) ≤ 0) : Qse line 0 0 (Ns line (Re line)) := ⟨rfl, rfl, rfl, Nat.lt_succ_self _, h⟩
theorem fi72 (line : ByteArray) (r : List ByteArray × Bool) (hF : r = (F72 line)) : (Imp (.l 1 eStr r.1) (.l 1 eStr ((F72 line).1))) ∧ ((.bool r.2 : Value) = .bool ((F72 line).2)) ∧ True := by cases hF; exact ⟨Imp.refl _, rfl, trivial⟩
def S72 (line : ByteArray) : Spec := ⟨[.r (.c (.v (.string line)))], .tu [.ow (.l 1 eStr ((F72 line).1)), .v (.bool ((F72 line).2))], line.size ≤ 1048576⟩
theorem ok72 (line : ByteArray) : (S72 line).ok Tryz.prog 72 false :=
 Ql mixed (fn := Tryz.f72) (ct := .seq .no (.seq (.reg [(1, Qsc line w14_)]) (.seq (.seq .no (.blk (.loop (ι := Nat × Int) (fun i => (fun (i40 : Int) => (⟨[(0, some (.v (.string ((F66 line w14_).1)))), (4, some (.v (vI i40)))], [], 0⟩ : St)) i.2) (Ns line) (fun i => i.1) (Re line) (fun i => (fun (i40 : Int) => (.seq (.seq .no (.cond .no .no)) (.seq (.blk (.seq (.reg [(4, Eg (IntKind.i64.wrap ((((F66 line w14_).1).data.getD (Int.toNat i40) 0).toNat : Int)) 32 126)]) (.cond (.seq .no .no) .no))) (.reg [(1, .bnd)])))) i.2)))) (.seq (.reg [(1, kh62f ((F66 line w14_).1) w15_), (2, .call 84 (S84 ((F62 ((F66 line w14_).1) w15_).filter (fun x => !((fun (x0 : ByteArray) => F85 x0) x))) (F62 ((F66 line w14_).1) w15_) (fun (x0 : ByteArray) => F85 x0) (fun (x0 : ByteArray) => True)) (oa84 (F62 ((F66 line w14_).1) w15_) (fun (x0 : ByteArray) => F85 x0) (fun (x0 : ByteArray) => True)) (some ⟨true, 85, Yu (fun (x0 : ByteArray) => True) (fun (x0 : ByteArray) => F85 x0), [], rfl, True, fun i => Xo (ok85 i)⟩))]) (.seq (.seq (.reg [(5, .call 35 (S35 (((F62 ((F66 line w14_).1) w15_).filter (fun x => !((fun (x0 : ByteArray) => F85 x0) x))).any (fun (x0 : ByteArray) => F86 x0)) ((F62 ((F66 line w14_).1) w15_).filter (fun x => !((fun (x0 : ByteArray) => F85 x0) x))) (fun (x0 : ByteArray) => F86 x0) (fun (x0 : ByteArray) => True)) (oa35 ((F62 ((F66 line w14_).1) w15_).filter (fun x => !((fun (x0 : ByteArray) => F85 x0) x))) (fun (x0 : ByteArray) => F86 x0) (fun (x0 : ByteArray) => True)) (some ⟨true, 86, Yu (fun (x0 : ByteArray) => True) (fun (x0 : ByteArray) => F86 x0), [], rfl, True, fun i => Xo (ok86 i)⟩))]) (.cond (.seq .no .no) .no)) (.seq .no .no)))))) Tryz.func72 (fun (hpre0 : line.size ≤ 1048576) => kc66 line w14_ (by omega) (fun gv1 gv2 => ai (en72_0 line (by omega)) (fun (i0 : Nat × Int) (hi0 : Ns line i0) => (fun (m0 : Nat) (i40 : Int) (hh0 : Qvk line i0 m0 i40) => have hI0 := hh0.1; have hl0 := hh0.2.1; have _ := hh0.2.2.1; have _ := hh0.2.2.2; ifd (i40 < (((F66 line w14_).1).size : Int)) (fun h4 _ => ai (by omega : 0 ≤ i40 ∧ i40 < (((F66 line w14_).1).size : Int)) (Qfr (IntKind.i64.wrap ((((F66 line w14_).1).data.getD (Int.toNat i40) 0).toNat : Int)) 32 126 (ifb (!(decide (32 ≤ (IntKind.i64.wrap ((((F66 line w14_).1).data.getD (Int.toNat i40) 0).toNat : Int)) ∧ (IntKind.i64.wrap ((((F66 line w14_).1).data.getD (Int.toNat i40) 0).toNat : Int)) ≤ 126))) (fun h5 => have _ : ¬ (32 ≤ (IntKind.i64.wrap ((((F66 line w14_).1).data.getD (Int.toNat i40) 0).toNat : Int)) ∧ (IntKind.i64.wrap ((((F66 line w14_).1).data.getD (Int.toNat i40) 0).toNat : Int)) ≤ 126) := of_decide_eq_false (Wr h5); (fun hF : (([] : List ByteArray), false) = (F72 line) => ai ((Imp.nil 1 eStr).trans (Imp.of_eq (congrArg (fun r : List ByteArray × Bool => Dat.l 1 eStr r.1) hF))) (ai (congrArg (fun r : List ByteArray × Bool => (.bool r.2 : Value)) hF) trivial)) (finR (Qt hI0 (condT h4 (condT h5 rfl))) rfl)) (fun h5 => have _ : 32 ≤ (IntKind.i64.wrap ((((F66 line w14_).1).data.getD (Int.toNat i40) 0).toNat : Int)) ∧ (IntKind.i64.wrap ((((F66 line w14_).1).data.getD (Int.toNat i40) 0).toNat : Int)) ≤ 126 := of_decide_eq_true (Yl h5); ai (iok (i40 + 1) (by omega)) (bk72_0 line i0 m0 (i40 + 1) hl0 (Qe hI0 (condT h4 (condF h5 rfl))) (by refine ⟨?_, ?_⟩ <;> omega)))))) (fun h4 _ => have hD0_6 : Qqv line = Lp.done i40 := Qk hI0 (condF h4 rfl); kc62 ((F66 line w14_).1) w15_ (by omega) (by decide) (by decide) (by decide) (fun gv7 gv8 => ai (ai (by omega : (F62 ((F66 line w14_).1) w15_).length ≤ 1000000000) (by first | assumption | (intros; exact trivial) | (intros; exact Nat.zero_le _) : ∀ k : Nat, k < (F62 ((F66 line w14_).1) w15_).length → (fun (x0 : ByteArray) => True) ((F62 ((F66 line w14_).1) w15_).getD k default))) (ai (Imp.refl (.l 1 eStr (F62 ((F66 line w14_).1) w15_))) (ai (Eq.refl (Yu (fun (x0 : ByteArray) => True) (fun (x0 : ByteArray) => F85 x0))) (ai trivial (ai (fun k9 : (decide ((((F62 ((F66 line w14_).1) w15_).filter (fun x => !((fun (x0 : ByteArray) => F85 x0) x))).length : Int) > 8)) = false => have _ : ¬ (((F62 ((F66 line w14_).1) w15_).filter (fun x => !((fun (x0 : ByteArray) => F85 x0) x))).length : Int) > 8 := of_decide_eq_false k9; (by first | assumption | (intros; exact trivial) | (intros; exact Nat.zero_le _) : ∀ k : Nat, k < ((F62 ((F66 line w14_).1) w15_).filter (fun x => !((fun (x0 : ByteArray) => F85 x0) x))).length → (fun (x0 : ByteArray) => True) (((F62 ((F66 line w14_).1) w15_).filter (fun x => !((fun (x0 : ByteArray) => F85 x0) x))).getD k default))) (ai (fun k10 : (decide ((((F62 ((F66 line w14_).1) w15_).filter (fun x => !((fun (x0 : ByteArray) => F85 x0) x))).length : Int) > 8)) = false => have _ : ¬ (((F62 ((F66 line w14_).1) w15_).filter (fun x => !((fun (x0 : ByteArray) => F85 x0) x))).length : Int) > 8 := of_decide_eq_false k10; (Imp.refl (.l 1 eStr ((F62 ((F66 line w14_).1) w15_).filter (fun x => !((fun (x0 : ByteArray) => F85 x0) x)))))) (ai (fun k11 : (decide ((((F62 ((F66 line w14_).1) w15_).filter (fun x => !((fun (x0 : ByteArray) => F85 x0) x))).length : Int) > 8)) = false => have _ : ¬ (((F62 ((F66 line w14_).1) w15_).filter (fun x => !((fun (x0 : ByteArray) => F85 x0) x))).length : Int) > 8 := of_decide_eq_false k11; (Eq.refl (Yu (fun (x0 : ByteArray) => True) (fun (x0 : ByteArray) => F86 x0)))) (ai (fun k12 : (decide ((((F62 ((F66 line w14_).1) w15_).filter (fun x => !((fun (x0 : ByteArray) => F85 x0) x))).length : Int) > 8)) = false => have _ : ¬ (((F62 ((F66 line w14_).1) w15_).filter (fun x => !((fun (x0 : ByteArray) => F85 x0) x))).length : Int) > 8 := of_decide_eq_false k12; trivial) (ifb (bif decide ((((F62 ((F66 line w14_).1) w15_).filter (fun x => !((fun (x0 : ByteArray) => F85 x0) x))).length : Int) > 8) then true else (((F62 ((F66 line w14_).1) w15_).filter (fun x => !((fun (x0 : ByteArray) => F85 x0) x))).any (fun (x0 : ByteArray) => F86 x0))) (fun h13 => (fun hF : (([] : List ByteArray), false) = (F72 line) => ai ((Imp.nil 1 eStr).trans (Imp.of_eq (congrArg (fun r : List ByteArray × Bool => Dat.l 1 eStr r.1) hF))) (ai (congrArg (fun r : List ByteArray × Bool => (.bool r.2 : Value)) hF) trivial)) (finD hD0_6 (condT h13 rfl))) (fun h13 => have _ : ¬ (((F62 ((F66 line w14_).1) w15_).filter (fun x => !((fun (x0 : ByteArray) => F85 x0) x))).length : Int) > 8 := of_decide_eq_false (orF1 h13); fi72 line (((F62 ((F66 line w14_).1) w15_).filter (fun x => !((fun (x0 : ByteArray) => F85 x0) x))), true) (finD hD0_6 (condF h13 rfl)))))))))))))) (i0.1 - 1) i0.2 (un72_0 line i0 hi0)))) (by kernel_rfl)
end Go.Proofs.YtmoodkjkecjeaabGreatDoor
namespace Go.Proofs.YtmoodkjkecjeaabGreatDoor
open Go.RowKit
set_option maxRecDepth 100000
set_option linter.unusedVariables false
set_option linter.unusedSimpArgs false
def Qx (c : UInt8) : List UInt8 → List (List UInt8)
 | [] => [[]]
 | b :: l => if b = c then [] :: Qx c l else (match Qx c l with | [] => [[b]] | w :: ws => (b :: w) :: ws)
theorem Us {c : UInt8} : ∀ {l : List UInt8}, c ∉ l → Qx c l = [l]
 | [], _ => rfl
 | b :: l, h => by
  have hb : b ≠ c := fun e => h (by rw [e]; exact List.mem_cons_self)
  rw [Qx, if_neg hb, Us (fun hm => h (List.mem_cons_of_mem _ hm))]
theorem Uz {c : UInt8} (b : List UInt8) : ∀ {a : List UInt8}, c ∉ a → Qx c (a ++ c :: b) = a :: Qx c b
 | [], _ => by rw [List.nil_append, Qx, if_pos rfl]
 | x :: a, h => by
  have hb : x ≠ c := fun e => h (by rw [e]; exact List.mem_cons_self)
  rw [List.cons_append, Qx, if_neg hb, Uz b (fun hm => h (List.mem_cons_of_mem _ hm))]
theorem Kk (c : UInt8) : ∀ l : List UInt8, (Lib.index l [c] = -1 ∧ c ∉ l) ∨ ∃ a b, l = a ++ c :: b ∧ c ∉ a ∧ Lib.index l [c] = (a.length : Int)
 | [] => .inl ⟨rfl, by simp⟩
 | x :: l => by
  rw [Lib.index_one, Lib.indexByte]
  by_cases hx : x = c
  ·subst hx
   exact .inr ⟨[], l, rfl, by simp, by simp⟩
  ·have hx' : (x == c) = false := by simpa using hx
   rw [hx']
   rcases Kk c l with ⟨h1, h2⟩ | ⟨a, b, h1, h2, h3⟩
   ·rw [Lib.index_one] at h1
    refine .inl ⟨by rw [h1]; rfl, fun hm => ?_⟩
    rcases List.mem_cons.1 hm with h | h
    ·exact hx h.symm
    ·exact h2 h
   ·rw [Lib.index_one] at h3
    refine .inr ⟨x :: a, b, by rw [h1]; rfl, fun hm => ?_, ?_⟩
    ·rcases List.mem_cons.1 hm with h | h
     ·exact hx h.symm
     ·exact h2 h
    ·rw [h3]
     have : ((a.length : Int) == -1) = false := by
      rw [beq_eq_false_iff_ne]; omega
     simp only [this, Bool.false_eq_true, if_false, List.length_cons]
     omega
theorem Jo {a b : ByteArray} (h : a.data.toList = b.data.toList) : a = b := by
 cases a; cases b
 simp only at h
 congr
 exact Array.ext' h
theorem Be (s : ByteArray) (c : UInt8) : (c ∉ s.data.toList ∧ cut3 s ⟨#[c]⟩ = (s, ⟨#[]⟩, false)) ∨ ∃ a b, s.data.toList = a ++ c :: b ∧ c ∉ a ∧ cut3 s ⟨#[c]⟩ = (⟨a.toArray⟩, ⟨b.toArray⟩, true) := by
 rcases Kk c s.data.toList with ⟨h1, h2⟩ | ⟨a, b, h1, h2, h3⟩
 ·refine .inl ⟨h2, ?_⟩
  unfold cut3 Lib.cut
  rw [h1]
  rfl
 ·refine .inr ⟨a, b, h1, h2, ?_⟩
  unfold cut3 Lib.cut
  rw [h3, if_pos (by omega), h1]
  simp
theorem Qad (c : UInt8) : ∀ (k : Nat) (s : ByteArray), s.data.toList.count c = k → (Lib.splitB ⟨#[c]⟩ 0 k s).map (·.data.toList) = Qx c s.data.toList
 | 0, s, hk => by
  rw [Us (List.count_eq_zero.1 hk)]
  rfl
 | k + 1, s, hk => by
  rcases Kk c s.data.toList with ⟨h1, h2⟩ | ⟨a, b, h1, h2, h3⟩
  ·rw [List.count_eq_zero.2 h2] at hk; omega
  ·have hi : Lib.indexB s ⟨#[c]⟩ = (a.length : Int) := h3
   unfold Lib.splitB
   rw [hi, if_neg (by rw [beq_iff_eq]; omega), List.map_cons, h1, Uz b h2]
   have hsz : s.size = a.length + (b.length + 1) := by
    have := congrArg List.length h1
    rw [List.length_append, List.length_cons, Array.length_toList] at this
    exact this
   have e1 : (s.extract 0 (((a.length : Int)).toNat + 0)).data.toList = a := by
    rw [ByteArray.data_extract, Array.toList_extract, List.extract_eq_take_drop, h1, Int.toNat_natCast, Nat.add_zero, Nat.sub_zero, List.drop_zero]
    rw [List.take_append_of_le_length (Nat.le_refl _), List.take_length]
   have e2 : (s.extract (((a.length : Int)).toNat + (⟨#[c]⟩ : ByteArray).size) s.size).data.toList = b := by
    have hc1 : (⟨#[c]⟩ : ByteArray).size = 1 := rfl
    rw [hc1]
    simp only [ByteArray.data_extract, Array.toList_extract, List.extract_eq_take_drop, h1, Int.toNat_natCast, hsz]
    rw [List.drop_append, List.drop_of_length_le (by omega), List.nil_append]
    have e3 : a.length + 1 - a.length = 1 := by omega
    rw [e3, List.drop_succ_cons, List.drop_zero, List.take_of_length_le (by omega)]
   rw [e1, Qad c k _ (by rw [e2]; rw [h1] at hk; simp [List.count_eq_zero.2 h2] at hk; omega), e2]
theorem Ty (s : ByteArray) (c : UInt8) : (Qw s ⟨#[c]⟩).map (·.data.toList) = Qx c s.data.toList := by
 have : Lib.countB s ⟨#[c]⟩ = s.data.toList.count c := Lib.count_one c s.data.toList
 unfold Qw
 rw [this]
 exact Qad c _ s rfl
def Xn (line : ByteArray) : Int → Lp Int ByteArray := fun i40 =>
 bif (decide (i40 < (line.size : Int))) then (bif (((line.data.getD (Int.toNat i40) 0).toNat : Int) == 35) then (.ret (line.extract (Int.toNat (0 : Int)) (Int.toNat i40))) else (.next (i40 + 1))) else (.done i40)
def F55 (line : ByteArray) : ByteArray :=
 (runL (Xn line) ((Int.toNat ((line.size : Int) - 0)) + 1) 0).fin (fun r => r) (fun i40 => line)
abbrev Eb (line : ByteArray) : Nat × Int := (((Int.toNat ((line.size : Int) - 0)) + 1), 0)
abbrev Qhp (line : ByteArray) (m39 : Nat) (i40 : Int) : Prop := Int.toNat ((line.size : Int) - i40) < m39 ∧ (0 : Int) ≤ i40
abbrev Qqm (line : ByteArray) : Lp Int ByteArray := LpX (Xn line) (Eb line)
abbrev Ps (line : ByteArray) (i : Nat × Int) : Prop := LpJ (Xn line) (Eb line) i (Qhp line i.1 i.2)
abbrev Qsa (line : ByteArray) (i : Nat × Int) (m39 : Nat) (i40 : Int) : Prop := LpH (Xn line) (Eb line) i m39 i40 (Qhp line (m39 + 1) i40)
abbrev Qqe (line : ByteArray) (i40 : Int) (i40_ : Int) (K39 : Prop) : Prop := (Rf (.string line)) ∧ ((.int .i64 i40 : Value) = .int .i64 i40_) ∧ K39
theorem un55_0 (line : ByteArray) (i : Nat × Int) (h : Ps line i) : Qsa line i (i.1 - 1) i.2 := ⟨hd1 h.1 h.2.1, hd3 h.2.1, hd2 h.2.1, h.2.2⟩
theorem bk55_0 (line : ByteArray) (i : Nat × Int) (m39 : Nat) (i40 : Int) (hl : m39 < i.1) (e : runL (Xn line) m39 i40 = Qqm line) (h : Qhp line m39 i40) : ∃ j : Nat × Int, Qqe line i40 j.2 (Ps line j ∧ j.1 < i.1) := ⟨(m39, i40), rfl, rfl, ⟨e, h⟩, hl⟩
theorem en55_0 (line : ByteArray) (h : (0 : Int) ≤ 0) : Qqe line 0 0 (Ps line (Eb line)) := ⟨rfl, rfl, rfl, Nat.lt_succ_self _, h⟩
def S55 (R : ByteArray) (line : ByteArray) : Spec := ⟨[.r (.c (.v (.string line)))], .v (.string R), line.size ≤ 1048576⟩
theorem ok55 (line : ByteArray) : (S55 (F55 line) line).ok Tryz.prog 55 :=
 Ql mixed (fn := Tryz.f55) (ct := .seq .no (.seq (.seq .no (.blk (.loop (ι := Nat × Int) (fun i => (fun (i40 : Int) => (⟨[(0, some (.v (.string line))), (3, some (.v (vI i40)))], [], 0⟩ : St)) i.2) (Ps line) (fun i => i.1) (Eb line) (fun i => (fun (i40 : Int) => (.seq (.seq .no (.cond .no .no)) (.seq (.blk (.seq .no (.cond (.seq .no .no) .no))) (.reg [(1, .bnd)])))) i.2)))) (.seq .no .no))) Tryz.func55 (fun (hpre0 : line.size ≤ 1048576) => ai (en55_0 line (by omega)) (fun (i0 : Nat × Int) (hi0 : Ps line i0) => (fun (m0 : Nat) (i40 : Int) (hh0 : Qsa line i0 m0 i40) => have hI0 := hh0.1; have hl0 := hh0.2.1; have _ := hh0.2.2.1; have _ := hh0.2.2.2; ifd (i40 < (line.size : Int)) (fun h2 _ => ai (by omega : 0 ≤ i40 ∧ i40 < (line.size : Int)) (ife ((line.data.getD (Int.toNat i40) 0).toNat : Int) 35 (fun h3 _ => ai (by omega : 0 ≤ (0 : Int) ∧ (0 : Int) ≤ i40 ∧ i40 ≤ (line.size : Int)) (fiS (line.extract (Int.toNat (0 : Int)) (Int.toNat i40)) (F55 line) (finR (Qt hI0 (condT h2 (condT h3 rfl))) rfl))) (fun h3 _ => ai (iok (i40 + 1) (by omega)) (bk55_0 line i0 m0 (i40 + 1) hl0 (Qe hI0 (condT h2 (condF h3 rfl))) (by refine ⟨?_, ?_⟩ <;> omega))))) (fun h2 _ => have hD0_4 : Qqm line = Lp.done i40 := Qk hI0 (condF h2 rfl); fiS line (F55 line) (finD hD0_4 rfl))) (i0.1 - 1) i0.2 (un55_0 line i0 hi0))) (by kernel_rfl)
theorem Zl (s : ByteArray) (i : Nat) : s.data.getD i 0 = s.data.toList.getD i 0 := by
 simp [Array.getD, List.getD_eq_getElem?_getD]
 split <;> simp_all
theorem cut_at {s : ByteArray} {c : UInt8} {i : Nat} (hi : i < s.size) (h : s.data.toList.getD i 0 = c) (hn : ∀ j, j < i → s.data.toList.getD j 0 ≠ c) : (cut3 s ⟨#[c]⟩).1 = s.extract 0 i := by
 have hl : s.data.toList.length = s.size := Array.length_toList
 rcases Be s c with ⟨h1, _⟩ | ⟨a, b, h1, h2, h3⟩
 ·exact absurd (by rw [← h, List.getD_eq_getElem?_getD, List.getElem?_eq_getElem (by omega)]; exact List.getElem_mem _) h1
 ·rw [h3]
  have hai : a.length = i := by
   rcases Nat.lt_trichotomy a.length i with hlt | heq | hgt
   ·refine absurd ?_ (hn a.length hlt)
    rw [h1, List.getD_eq_getElem?_getD, List.getElem?_append_right (Nat.le_refl _)]
    simp
   ·exact heq
   ·rw [h1, List.getD_eq_getElem?_getD, List.getElem?_append_left hgt, List.getElem?_eq_getElem hgt] at h
    exact absurd (h ▸ List.getElem_mem hgt) h2
  refine Jo ?_
  rw [ByteArray.data_extract, Array.toList_extract, List.extract_eq_take_drop, h1, List.drop_zero, Nat.sub_zero, ← hai, List.take_append_of_le_length (Nat.le_refl _), List.take_length]
theorem Qxy {s : ByteArray} {c : UInt8} (hn : ∀ j, j < s.size → s.data.toList.getD j 0 ≠ c) : (cut3 s ⟨#[c]⟩).1 = s := by
 have hl : s.data.toList.length = s.size := Array.length_toList
 rcases Be s c with ⟨_, h1⟩ | ⟨a, b, h1, h2, h3⟩
 ·rw [h1]
 ·refine absurd ?_ (hn a.length (by rw [← hl, h1]; simp))
  rw [h1, List.getD_eq_getElem?_getD, List.getElem?_append_right (Nat.le_refl _)]
  simp
theorem Qlr (b : UInt8) (k : UInt8) : ((b.toNat : Int) == (k.toNat : Int)) = decide (b = k) := by
 rw [beqD]
 congr 1
 refine propext ⟨fun h => ?_, fun h => by rw [h]⟩
 exact UInt8.toNat_inj.1 (by omega)
theorem Qce (s : ByteArray) : ∀ (m i : Nat), i + m = s.size → (∀ j, j < i → s.data.toList.getD j 0 ≠ 35) → ∀ fuel, m < fuel →
  (runL (Xn s) fuel (i : Int)).fin (fun r => r) (fun _ => s) = (cut3 s ⟨#[35]⟩).1
 | m, i, _, _, 0, hf => absurd hf (Nat.not_lt_zero _)
 | 0, i, h, hn, fuel + 1, _ => by
  have h1 : decide ((i : Int) < (s.size : Int)) = false := decide_eq_false (by omega)
  simp only [runL, Xn, h1, cond_false]
  rw [Qxy (fun j hj => hn j (by omega))]
  rfl
 | m + 1, i, h, hn, fuel + 1, hf => by
  have h1 : decide ((i : Int) < (s.size : Int)) = true := decide_eq_true (by omega)
  have h2 := Qlr (s.data.toList.getD i 0) 35
  have h3 : ((35 : UInt8).toNat : Int) = 35 := rfl
  rw [h3] at h2
  simp only [runL, Xn, h1, cond_true, Int.toNat_natCast, Zl, h2]
  by_cases hc : s.data.toList.getD i 0 = 35
  ·rw [decide_eq_true hc, cond_true, cut_at (by omega) hc hn]
   rfl
  ·rw [decide_eq_false hc, cond_false]
   have := Qce s m (i + 1) (by omega) (fun j hj => by
    rcases Nat.lt_or_ge j i with h4 | h4
    ·exact hn j h4
    ·obtain rfl : j = i := by omega
     exact hc) fuel (by omega)
   simpa using this
theorem as55 (line : ByteArray) : F55 line = ((cut3 line (⟨#[35]⟩ : ByteArray)).1) := by
 unfold F55
 exact Qce line line.size 0 (by omega) (fun j hj => absurd hj (Nat.not_lt_zero _)) _ (by omega)
theorem Qxp (line : ByteArray) : ((cut3 line (⟨#[35]⟩ : ByteArray)).1.size : Int) ≤ line.size := Pz _ _
theorem Qwh (line : ByteArray) (h : line.size ≤ 1048576) : (cut3 line (⟨#[35]⟩ : ByteArray)).1.size ≤ 1048576 := by
 have := Pz line ⟨#[35]⟩
 omega
theorem oa55 (line : ByteArray) : (S55 ((cut3 line (⟨#[35]⟩ : ByteArray)).1) line).ok Tryz.prog 55 := by
 intro hp; have h := ok55 line hp; rw [as55 line] at h; exact h
theorem kc55a (line : ByteArray) {K_ : Prop} (p0_ : line.size ≤ 1048576) (q0_ : line.size ≤ 1048576) (k_ : ((((cut3 line w14_).1).size : Int) ≤ line.size) → (((cut3 line w14_).1).size ≤ 1048576) → K_) : (line.size ≤ 1048576) ∧ (Imp (.v (.string line)) (.v (.string line))) ∧ K_ := ⟨p0_, Imp.refl _, k_ (Qxp line) (Qwh line q0_)⟩
abbrev kh55a (line : ByteArray) : Hint true Tryz.prog := .call 55 (S55 ((cut3 line w14_).1) line) (oa55 line) none
def Kl (line : ByteArray) : (List ByteArray × List Int × Int) → Lp (List ByteArray × List Int × Int) (List ByteArray × Bool) := fun (out, word, i40) =>
 bif (decide (i40 ≤ (((cut3 line (⟨#[35]⟩ : ByteArray)).1).size : Int))) then (bif (bif decide (i40 < (((cut3 line (⟨#[35]⟩ : ByteArray)).1).size : Int)) then (bif decide (((((cut3 line (⟨#[35]⟩ : ByteArray)).1).data.getD (Int.toNat i40) 0).toNat : Int) < 32) then true else decide (((((cut3 line (⟨#[35]⟩ : ByteArray)).1).data.getD (Int.toNat i40) 0).toNat : Int) > 126)) else false) then (.ret (([] : List ByteArray), false)) else (bif (bif decide (i40 < (((cut3 line (⟨#[35]⟩ : ByteArray)).1).size : Int)) then (((((cut3 line (⟨#[35]⟩ : ByteArray)).1).data.getD (Int.toNat i40) 0).toNat : Int) != 32) else false) then (bif (decide (((word ++ [((((cut3 line (⟨#[35]⟩ : ByteArray)).1).data.getD (Int.toNat i40) 0).toNat : Int)]).length : Int) > 24)) then (.ret (([] : List ByteArray), false)) else (.next (out, (word ++ [((((cut3 line (⟨#[35]⟩ : ByteArray)).1).data.getD (Int.toNat i40) 0).toNat : Int)]), (i40 + 1)))) else (bif (decide ((word.length : Int) > 0)) then (bif (decide (((out ++ [(Ja word)]).length : Int) > 8)) then (.ret (([] : List ByteArray), false)) else (.next ((out ++ [(Ja word)]), ([] : List Int), (i40 + 1)))) else (.next (out, word, (i40 + 1)))))) else (.done (out, word, i40))
def F26 (line : ByteArray) : List ByteArray × Bool :=
 (runL (Kl line) ((Int.toNat ((((cut3 line (⟨#[35]⟩ : ByteArray)).1).size : Int) - 0 + 1)) + 1) (([] : List ByteArray), ([] : List Int), 0)).fin (fun r => r) (fun (out, word, i40) => (out, true))
abbrev Rq (line : ByteArray) : Nat × (List ByteArray × List Int × Int) := (((Int.toNat ((((cut3 line w14_).1).size : Int) - 0 + 1)) + 1), (([] : List ByteArray), ([] : List Int), 0))
abbrev Qjy (line : ByteArray) (m39 : Nat) (out : List ByteArray) (word : List Int) (i40 : Int) : Prop := Int.toNat ((((cut3 line w14_).1).size : Int) - i40 + 1) < m39 ∧ word.length ≤ 24 ∧ out.length ≤ 8 ∧ (0 : Int) ≤ i40
abbrev Qrj (line : ByteArray) : Lp (List ByteArray × List Int × Int) (List ByteArray × Bool) := LpX (Kl line) (Rq line)
abbrev Pu (line : ByteArray) (i : Nat × (List ByteArray × List Int × Int)) : Prop := LpJ (Kl line) (Rq line) i (Qjy line i.1 i.2.1 i.2.2.1 i.2.2.2)
abbrev Qvw (line : ByteArray) (i : Nat × (List ByteArray × List Int × Int)) (m39 : Nat) (out : List ByteArray) (word : List Int) (i40 : Int) : Prop := LpH (Kl line) (Rq line) i m39 (out, word, i40) (Qjy line (m39 + 1) out word i40)
abbrev Qve (line : ByteArray) (out : List ByteArray) (word : List Int) (i40 : Int) (out_ : List ByteArray) (word_ : List Int) (i40_ : Int) (K39 : Prop) : Prop := (Rf (.string ((cut3 line w14_).1))) ∧ ((.int .i64 i40 : Value) = .int .i64 i40_) ∧ (Imp (.l 1 eStr out) (.l 1 eStr out_)) ∧ (Imp (.l 1 Wp word) (.l 1 Wp word_)) ∧ K39
theorem un26_0 (line : ByteArray) (i : Nat × (List ByteArray × List Int × Int)) (h : Pu line i) : Qvw line i (i.1 - 1) i.2.1 i.2.2.1 i.2.2.2 := ⟨hd1 h.1 h.2.1, hd3 h.2.1, hd2 h.2.1, h.2.2⟩
theorem Qhw (line : ByteArray) (i : Nat × (List ByteArray × List Int × Int)) (m39 : Nat) (out : List ByteArray) (word : List Int) (i40 : Int) (hl : m39 < i.1) (e : runL (Kl line) m39 (out, word, i40) = Qrj line) (h : Qjy line m39 out word i40) : ∃ j : Nat × (List ByteArray × List Int × Int), Qve line out word i40 j.2.1 j.2.2.1 j.2.2.2 (Pu line j ∧ j.1 < i.1) := ⟨(m39, (out, word, i40)), rfl, rfl, Imp.refl _, Imp.refl _, ⟨e, h⟩, hl⟩
theorem en26_0 (line : ByteArray) (h : ([] : List Int).length ≤ 24 ∧ ([] : List ByteArray).length ≤ 8 ∧ (0 : Int) ≤ 0) : Qve line ([] : List ByteArray) ([] : List Int) 0 ([] : List ByteArray) ([] : List Int) 0 (Pu line (Rq line)) := ⟨rfl, rfl, Imp.refl _, Imp.refl _, rfl, Nat.lt_succ_self _, h⟩
theorem fi26 (line : ByteArray) (r : List ByteArray × Bool) (hF : r = (F26 line)) : (Imp (.l 1 eStr r.1) (.l 1 eStr ((F26 line).1))) ∧ ((.bool r.2 : Value) = .bool ((F26 line).2)) ∧ True := by cases hF; exact ⟨Imp.refl _, rfl, trivial⟩
def S26 (line : ByteArray) : Spec := ⟨[.r (.c (.v (.string line)))], .tu [.ow (.l 1 eStr ((F26 line).1)), .v (.bool ((F26 line).2))], line.size ≤ 1048576⟩
theorem ok26 (line : ByteArray) : (S26 line).ok Tryz.prog 26 :=
 Ql mixed (fn := Tryz.f26) (ct := .seq .no (.seq (.reg [(1, kh55a line)]) (.seq (.reg [(0, .dat (.l 1 eStr ([] : List ByteArray)))]) (.seq (.reg [(0, .dat (.l 1 Wp ([] : List Int)))]) (.seq (.seqk [(5, 0), (6, 0)] .no (.blk (.loop (ι := Nat × (List ByteArray × List Int × Int)) (fun i => (fun (out : List ByteArray) (word : List Int) (i40 : Int) => (⟨[(4, some (.v (.string ((cut3 line w14_).1)))), (5, some (.h 0 0)), (6, some (.h 1 0)), (7, some (.v (vI i40)))], [(0, some (.own 0 (.l 1 eStr out))), (1, some (.own 1 (.l 1 Wp word)))], 2⟩ : St)) i.2.1 i.2.2.1 i.2.2.2) (Pu line) (fun i => i.1) (Rq line) (fun i => (fun (out : List ByteArray) (word : List Int) (i40 : Int) => (.seq (.seq .no (.cond .no .no)) (.seq (.blk (.seq (.seq .no (.cond (.seq (.reg [(0, .dat (.l 1 eStr ([] : List ByteArray)))]) .no) .no)) (.seq (.seq .no (.cond (.seq (.reg [(5, .dat (.l 1 Wp (word ++ [((((cut3 line w14_).1).data.getD (Int.toNat i40) 0).toNat : Int)])))]) (.seq (.seq .no (.cond (.seq (.reg [(0, .dat (.l 1 eStr ([] : List ByteArray)))]) .no) .no)) .no)) .no)) (.seq .no (.cond (.seq (.reg [(2, .str (Ja word)), (4, .dat (.l 1 eStr (out ++ [(Ja word)])))]) (.seq (.reg [(0, .dat (.l 1 Wp ([] : List Int)))]) (.seq .no (.cond (.seq (.reg [(0, .dat (.l 1 eStr ([] : List ByteArray)))]) .no) .no)))) .no))))) (.reg [(1, .bnd)])))) i.2.1 i.2.2.1 i.2.2.2)))) (.seq .no .no)))))) Tryz.func26 (fun (hpre0 : line.size ≤ 1048576) => kc55a line (by first | omega | (simp only [lens, ib] at * <;> omega)) (by first | omega | (simp only [lens, ib] at * <;> omega)) (fun gv1 gv2 => ai (bokr 1 eStr ([] : List ByteArray) fun _ => rfl) (ai (bokr 1 Wp ([] : List Int) fun _ => rfl) (kn ([] : List ByteArray) fun _ => kn ([] : List Int) fun _ => ai (en26_0 line (by refine ⟨?_, ?_, ?_⟩ <;> first | omega | (simp only [lens, ib] at * <;> omega))) (fun (i0 : Nat × (List ByteArray × List Int × Int)) (hi0 : Pu line i0) => (fun (m0 : Nat) (out : List ByteArray) (word : List Int) (i40 : Int) (hh0 : Qvw line i0 m0 out word i40) => have hI0 := hh0.1; have hl0 := hh0.2.1; have _ := hh0.2.2.1; have _ := hh0.2.2.2; ifd (i40 ≤ (((cut3 line w14_).1).size : Int)) (fun h4 _ => ai (fun k5 : (decide (i40 < (((cut3 line w14_).1).size : Int))) = true => have _ : i40 < (((cut3 line w14_).1).size : Int) := of_decide_eq_true k5; (by first | omega | (simp only [lens, ib] at * <;> omega) : 0 ≤ i40 ∧ i40 < (((cut3 line w14_).1).size : Int))) (ai (fun k7 : (decide (((((cut3 line w14_).1).data.getD (Int.toNat i40) 0).toNat : Int) < 32)) = false => have _ : ¬ ((((cut3 line w14_).1).data.getD (Int.toNat i40) 0).toNat : Int) < 32 := of_decide_eq_false k7; (fun k6 : (decide (i40 < (((cut3 line w14_).1).size : Int))) = true => have _ : i40 < (((cut3 line w14_).1).size : Int) := of_decide_eq_true k6; (by first | omega | (simp only [lens, ib] at * <;> omega) : 0 ≤ i40 ∧ i40 < (((cut3 line w14_).1).size : Int)))) (ifb (bif decide (i40 < (((cut3 line w14_).1).size : Int)) then (bif decide (((((cut3 line w14_).1).data.getD (Int.toNat i40) 0).toNat : Int) < 32) then true else decide (((((cut3 line w14_).1).data.getD (Int.toNat i40) 0).toNat : Int) > 126)) else false) (fun h8 => have _ : i40 < (((cut3 line w14_).1).size : Int) := of_decide_eq_true (Qi h8); ai (bokr 1 eStr ([] : List ByteArray) fun _ => rfl) (fi26 line (([] : List ByteArray), false) (finR (Qt hI0 (condT h4 (condT h8 rfl))) rfl))) (fun h8 => ai (fun k9 : (decide (i40 < (((cut3 line w14_).1).size : Int))) = true => have _ : i40 < (((cut3 line w14_).1).size : Int) := of_decide_eq_true k9; (by first | omega | (simp only [lens, ib] at * <;> omega) : 0 ≤ i40 ∧ i40 < (((cut3 line w14_).1).size : Int))) (ifb (bif decide (i40 < (((cut3 line w14_).1).size : Int)) then (((((cut3 line w14_).1).data.getD (Int.toNat i40) 0).toNat : Int) != 32) else false) (fun h10 => have _ : i40 < (((cut3 line w14_).1).size : Int) := of_decide_eq_true (Qi h10); have _ : ¬ ((((cut3 line w14_).1).data.getD (Int.toNat i40) 0).toNat : Int) = 32 := bneT (Qv h10); ai (by first | omega | (simp only [lens, ib] at * <;> omega) : 0 ≤ i40 ∧ i40 < (((cut3 line w14_).1).size : Int)) (ai (AppA.mk Wp word [((((cut3 line w14_).1).data.getD (Int.toNat i40) 0).toNat : Int)] (Imp.refl (.l 1 Wp word)) rfl (by exact ai (Imp.u8 (by first | exact u8a _ | exact u8m _ | exact u8w _)) trivial) (fun _ => rfl) : AppA (.l 1 Wp word) 1 1 [.v (.int .u8 ((((cut3 line w14_).1).data.getD (Int.toNat i40) 0).toNat : Int))] (.l 1 Wp (word ++ [((((cut3 line w14_).1).data.getD (Int.toNat i40) 0).toNat : Int)]))) (ai (by (try simp only [lens]); omega : (word ++ [((((cut3 line w14_).1).data.getD (Int.toNat i40) 0).toNat : Int)]).length * 1 ≤ 140737488355328) (ifd (((word ++ [((((cut3 line w14_).1).data.getD (Int.toNat i40) 0).toNat : Int)]).length : Int) > 24) (fun h11 _ => ai (bokr 1 eStr ([] : List ByteArray) fun _ => rfl) (fi26 line (([] : List ByteArray), false) (finR (Qt hI0 (condT h4 (condF h8 (condT h10 (condT h11 rfl))))) rfl))) (fun h11 _ => ai (iok (i40 + 1) (by first | omega | (simp only [lens, ib] at * <;> omega))) (Qhw line i0 m0 out (word ++ [((((cut3 line w14_).1).data.getD (Int.toNat i40) 0).toNat : Int)]) (i40 + 1) hl0 (Qe hI0 (condT h4 (condF h8 (condT h10 (condF h11 rfl))))) (by refine ⟨?_, ?_, ?_, ?_⟩ <;> first | omega | (simp only [lens, ib] at * <;> omega)))))))) (fun h10 => ifd ((word.length : Int) > 0) (fun h12 _ => ai (ConvOK.mk Wp word (fun x => x % 256) (fun _ => rfl) : ConvOK (.l 1 Wp word) (Ja word)) (ai (appr 1 eStr out [(Ja word)] fun _ => rfl) (ai (by (try simp only [lens]); omega : (out ++ [(Ja word)]).length * 16 ≤ 140737488355328) (ai (bokr 1 Wp ([] : List Int) fun _ => rfl) (ifd (((out ++ [(Ja word)]).length : Int) > 8) (fun h13 _ => ai (bokr 1 eStr ([] : List ByteArray) fun _ => rfl) (fi26 line (([] : List ByteArray), false) (finR (Qt hI0 (condT h4 (condF h8 (condF h10 (condT h12 (condT h13 rfl)))))) rfl))) (fun h13 _ => ai (iok (i40 + 1) (by first | omega | (simp only [lens, ib] at * <;> omega))) (Qhw line i0 m0 (out ++ [(Ja word)]) ([] : List Int) (i40 + 1) hl0 (Qe hI0 (condT h4 (condF h8 (condF h10 (condT h12 (condF h13 rfl)))))) (by refine ⟨?_, ?_, ?_, ?_⟩ <;> first | omega | (simp only [lens, ib] at * <;> omega))))))))) (fun h12 _ => ai (iok (i40 + 1) (by first | omega | (simp only [lens, ib] at * <;> omega))) (Qhw line i0 m0 out word (i40 + 1) hl0 (Qe hI0 (condT h4 (condF h8 (condF h10 (condF h12 rfl))))) (by refine ⟨?_, ?_, ?_, ?_⟩ <;> first | omega | (simp only [lens, ib] at * <;> omega)))))))))) (fun h4 _ => have hD0_14 : Qrj line = Lp.done (out, word, i40) := Qk hI0 (condF h4 rfl); fi26 line (out, true) (finD hD0_14 rfl))) (i0.1 - 1) i0.2.1 i0.2.2.1 i0.2.2.2 (un26_0 line i0 hi0)))))) (by kernel_rfl)
def Ud (l : List UInt8) : List (List UInt8) := (Qx 32 l).filter fun w => !w.isEmpty
def okB (b : UInt8) : Bool := decide (32 ≤ b.toNat ∧ b.toNat ≤ 126)
def mkB (l : List UInt8) : ByteArray := ⟨l.toArray⟩
theorem Tb (l : List UInt8) : (mkB l).data.toList = l := rfl
theorem Qae (s : ByteArray) : mkB s.data.toList = s := Jo rfl
def fitW (ws : List (List UInt8)) : Bool := decide (ws.length ≤ 8) && ws.all fun w => decide (w.length ≤ 24)
def Ww (l : List UInt8) : List ByteArray × Bool := bif l.all okB && fitW (Ud l) then ((Ud l).map mkB, true) else ([], false)
def Ks (w : List UInt8) : List Int := w.map fun b => (b.toNat : Int)
theorem Lf (w : List UInt8) : (Ks w).length = w.length := by simp [Ks]
theorem Mm (w : List UInt8) : Ja (Ks w) = mkB w := by
 refine Jo ?_
 show ((List.map (fun x => x % 256) (Ks w)).map fun n => UInt8.ofNat n.toNat) = w
 rw [List.map_map, Ks, List.map_map]
 refine (List.map_congr_left (g := id) fun b _ => ?_).trans (List.map_id w)
 have h := b.toNat_lt
 have e : ((b.toNat : Int) % 256).toNat = b.toNat := by omega
 simp only [Function.comp_apply, e, id]
 exact UInt8.ofNat_toNat
def Gp : List UInt8 → List ByteArray → List UInt8 → List ByteArray × Bool
 | [], out, w => if w = [] then (out, true) else if out.length + 1 > 8 then ([], false) else (out ++ [mkB w], true)
 | b :: l, out, w => if okB b = false then ([], false) else if b = 32 then (if w = [] then Gp l out w else if out.length + 1 > 8 then ([], false) else Gp l (out ++ [mkB w]) [])
  else if w.length + 1 > 24 then ([], false) else Gp l out (w ++ [b])
theorem Me (c : UInt8) : ∀ (l w : List UInt8), c ∉ w → ∃ p ps, Qx c (w ++ l) = (w ++ p) :: ps
 | [], w, h => ⟨[], [], by rw [List.append_nil, Us h]⟩
 | b :: l, w, h => by
  by_cases hb : b = c
  ·subst hb
   exact ⟨[], Qx b l, by rw [Uz l h, List.append_nil]⟩
  ·obtain ⟨p, ps, e⟩ := Me c l (w ++ [b]) (fun hm => by
    rcases List.mem_append.1 hm with h1 | h1
    ·exact h h1
    ·exact hb (List.mem_singleton.1 h1).symm)
   exact ⟨b :: p, ps, by rw [← List.singleton_append, ← List.append_assoc, e, List.append_assoc]; rfl⟩
theorem Hg : ∀ (l : List UInt8) (out : List ByteArray) (w : List UInt8), (32 : UInt8) ∉ w → w.length ≤ 24 → out.length ≤ 8 →
  Gp l out w = bif l.all okB && (decide (out.length + (Ud (w ++ l)).length ≤ 8) && (Ud (w ++ l)).all fun x => decide (x.length ≤ 24)) then (out ++ (Ud (w ++ l)).map mkB, true) else ([], false)
 | [], out, w, hw, h24, h8 => by
  have e : Ud (w ++ []) = if w = [] then [] else [w] := by
   rw [List.append_nil, Ud, Us hw]
   cases w <;> rfl
  rw [e, Gp]
  by_cases h : w = []
  ·rw [if_pos h, if_pos h]
   have e2 : decide (out.length + ([] : List (List UInt8)).length ≤ 8) = true := decide_eq_true (by simpa using h8)
   rw [e2, List.map_nil, List.append_nil]; rfl
  ·rw [if_neg h, if_neg h]
   by_cases h1 : out.length + 1 > 8
   ·rw [if_pos h1]
    have : decide (out.length + [w].length ≤ 8) = false := decide_eq_false (by simp only [List.length_cons, List.length_nil]; omega)
    rw [this]; rfl
   ·rw [if_neg h1]
    have : decide (out.length + [w].length ≤ 8) = true := decide_eq_true (by simp only [List.length_cons, List.length_nil]; omega)
    rw [this, List.all_cons, decide_eq_true h24]; rfl
 | b :: l, out, w, hw, h24, h8 => by
  rw [Gp, List.all_cons]
  cases hb : okB b with
  | false => rw [if_pos rfl]; rfl
  | true =>
   rw [if_neg (by simp), Bool.true_and]
   by_cases h32 : b = 32
   ·subst h32
    rw [if_pos rfl]
    have e : Ud (w ++ 32 :: l) = if w = [] then Ud l else w :: Ud l := by
     rw [Ud, Uz l hw, List.filter_cons]
     cases w <;> rfl
    rw [e]
    by_cases h : w = []
    ·rw [if_pos h, if_pos h, h, Hg l out [] (by simp) (by simp) h8, List.nil_append]
    ·rw [if_neg h, if_neg h]
     by_cases h1 : out.length + 1 > 8
     ·rw [if_pos h1]
      have : decide (out.length + (w :: Ud l).length ≤ 8) = false := decide_eq_false (by simp only [List.length_cons]; omega)
      rw [this, Bool.false_and, Bool.and_false]; rfl
     ·rw [if_neg h1, Hg l (out ++ [mkB w]) [] (by simp) (by simp) (by simp only [List.length_append, List.length_cons, List.length_nil]; omega), List.nil_append]
      have e1 : (out ++ [mkB w]).length + (Ud l).length = out.length + (w :: Ud l).length := by simp only [List.length_append, List.length_cons, List.length_nil]; omega
      rw [e1, List.all_cons, decide_eq_true h24, Bool.true_and, List.map_cons, List.append_assoc]
      rfl
   ·rw [if_neg h32]
    have hw' : (32 : UInt8) ∉ w ++ [b] := fun hm => by
     rcases List.mem_append.1 hm with h1 | h1
     ·exact hw h1
     ·exact h32 (List.mem_singleton.1 h1).symm
    have e2 : w ++ b :: l = (w ++ [b]) ++ l := by rw [List.append_assoc]; rfl
    by_cases h1 : w.length + 1 > 24
    ·rw [if_pos h1]
     obtain ⟨p, ps, e⟩ := Me 32 l (w ++ [b]) hw'
     have e3 : (Ud (w ++ b :: l)).all (fun x => decide (x.length ≤ 24)) = false := by
      rw [e2, Ud, e, List.filter_cons]
      have hne : (!((w ++ [b]) ++ p).isEmpty) = true := by cases w <;> rfl
      rw [if_pos hne, List.all_cons, decide_eq_false (by simp only [List.length_append, List.length_cons, List.length_nil]; omega)]
      rfl
     rw [e3, Bool.and_false, Bool.and_false]; rfl
    ·rw [if_neg h1, Hg l out (w ++ [b]) hw' (by simp only [List.length_append, List.length_cons, List.length_nil]; omega) h8, e2]
theorem Ux {σ ρ : Type} {step : σ → Lp σ ρ} {s s' : σ} (m : Nat) (h : step s = .next s') : runL step (m + 1) s = runL step m s' := by
 rw [runL, h]
theorem Kd {σ ρ : Type} {step : σ → Lp σ ρ} {s s' : σ} (m : Nat) (h : step s = .done s') : runL step (m + 1) s = .done s' := by
 rw [runL, h]
theorem Zf {σ ρ : Type} {step : σ → Lp σ ρ} {s : σ} {r : ρ} (m : Nat) (h : step s = .ret r) : runL step (m + 1) s = .ret r := by
 rw [runL, h]
theorem Qlh {w : List UInt8} (hw : ¬ w = []) : decide ((w.length : Int) > 0) = true := by
 cases w with
 | nil => exact absurd rfl hw
 | cons a w => exact decide_eq_true (by simp only [List.length_cons]; omega)
theorem Qxh (line s : ByteArray) (hs : (cut3 line (⟨#[35]⟩ : ByteArray)).1 = s) (out : List ByteArray) (w : List UInt8) : Kl line (out, Ks w, (s.size : Int)) =
  if w = [] then .next (out, Ks [], (s.size : Int) + 1) else if out.length + 1 > 8 then .ret ([], false) else .next (out ++ [mkB w], Ks [], (s.size : Int) + 1) := by
 have h0 : decide ((s.size : Int) ≤ (s.size : Int)) = true := decide_eq_true (by omega)
 have h1 : decide ((s.size : Int) < (s.size : Int)) = false := decide_eq_false (by omega)
 simp only [Kl, hs, h0, h1, cond_true, cond_false, Mm, Lf, List.length_append, List.length_cons, List.length_nil]
 by_cases hw : w = []
 ·subst hw; rfl
 ·rw [Qlh hw, if_neg hw, cond_true]
  by_cases h8 : out.length + 1 > 8
  ·have : decide (((out.length + (0 + 1) : Nat) : Int) > 8) = true := decide_eq_true (by omega)
   rw [this, if_pos h8]; rfl
  ·have : decide (((out.length + (0 + 1) : Nat) : Int) > 8) = false := decide_eq_false (by omega)
   rw [this, if_neg h8]; rfl
theorem Qgp (line s : ByteArray) (hs : (cut3 line (⟨#[35]⟩ : ByteArray)).1 = s) (out : List ByteArray) (w : List Int) : Kl line (out, w, (s.size : Int) + 1) = .done (out, w, (s.size : Int) + 1) := by
 have h0 : decide ((s.size : Int) + 1 ≤ (s.size : Int)) = false := decide_eq_false (by omega)
 simp only [Kl, hs, h0, cond_false]
theorem Qsj (line s : ByteArray) (hs : (cut3 line (⟨#[35]⟩ : ByteArray)).1 = s) (out : List ByteArray) (w : List UInt8) (i : Nat) (hi : i < s.size) (b : UInt8) (hb : s.data.toList.getD i 0 = b) : Kl line (out, Ks w, (i : Int)) =
  if okB b = false then .ret ([], false) else if b = 32 then (if w = [] then .next (out, Ks [], (i : Int) + 1) else if out.length + 1 > 8 then .ret ([], false) else .next (out ++ [mkB w], Ks [], (i : Int) + 1))
  else if w.length + 1 > 24 then .ret ([], false) else .next (out, Ks (w ++ [b]), (i : Int) + 1) := by
 have h0 : decide ((i : Int) ≤ (s.size : Int)) = true := decide_eq_true (by omega)
 have h1 : decide ((i : Int) < (s.size : Int)) = true := decide_eq_true (by omega)
 simp only [Kl, hs, h0, h1, cond_true, Int.toNat_natCast, Zl, hb]
 have hok : (bif decide ((b.toNat : Int) < 32) then true else decide ((b.toNat : Int) > 126)) = !okB b := by
  unfold okB
  by_cases h3 : (b.toNat : Int) < 32
  ·rw [decide_eq_true h3, cond_true, decide_eq_false (by omega)]; rfl
  ·rw [decide_eq_false h3, cond_false]
   by_cases h4 : (b.toNat : Int) > 126
   ·rw [decide_eq_true h4, decide_eq_false (by omega)]; rfl
   ·rw [decide_eq_false h4, decide_eq_true (by omega)]; rfl
 rw [hok]
 cases okB b with
 | false => rfl
 | true =>
  have h32 := Qlr b 32
  have h33 : ((32 : UInt8).toNat : Int) = 32 := rfl
  rw [h33] at h32
  have h34 : ((b.toNat : Int) != 32) = !decide (b = 32) := by rw [bne, h32]
  rw [h34]
  simp only [Bool.not_true, cond_false, Bool.true_eq_false, if_false]
  by_cases hc : b = 32
  ·rw [decide_eq_true hc, if_pos hc]
   simp only [Bool.not_true, cond_false, Mm, Lf, List.length_append, List.length_cons, List.length_nil]
   by_cases hw : w = []
   ·subst hw; rfl
   ·rw [Qlh hw, if_neg hw, cond_true]
    by_cases h8 : out.length + 1 > 8
    ·have : decide (((out.length + (0 + 1) : Nat) : Int) > 8) = true := decide_eq_true (by omega)
     rw [this, if_pos h8]; rfl
    ·have : decide (((out.length + (0 + 1) : Nat) : Int) > 8) = false := decide_eq_false (by omega)
     rw [this, if_neg h8]; rfl
  ·rw [decide_eq_false hc, if_neg hc]
   simp only [Bool.not_false, cond_true, Lf, List.length_append, List.length_cons, List.length_nil]
   by_cases h24 : w.length + 1 > 24
   ·have : decide (((w.length + (0 + 1) : Nat) : Int) > 24) = true := decide_eq_true (by omega)
    rw [this, if_pos h24]; rfl
   ·have : decide (((w.length + (0 + 1) : Nat) : Int) > 24) = false := decide_eq_false (by omega)
    rw [this, if_neg h24, cond_false]
    have e : Ks (w ++ [b]) = Ks w ++ [(b.toNat : Int)] := by simp [Ks]
    rw [e]
theorem Xy (line s : ByteArray) (hs : (cut3 line (⟨#[35]⟩ : ByteArray)).1 = s) : ∀ (m i : Nat) (out : List ByteArray) (w : List UInt8), i + m = s.size → ∀ fuel, m + 1 < fuel →
  (runL (Kl line) fuel (out, Ks w, (i : Int))).fin (fun r => r) (fun (out, word, i40) => (out, true)) = Gp (s.data.toList.drop i) out w
 | m, i, out, w, _, 0, hf => absurd hf (Nat.not_lt_zero _)
 | 0, i, out, w, h, fuel + 1, hf => by
  have hl : s.data.toList.length = s.size := Array.length_toList
  obtain rfl : i = s.size := by omega
  obtain ⟨fuel, rfl⟩ : ∃ f, fuel = f + 1 := ⟨fuel - 1, by omega⟩
  rw [List.drop_of_length_le (by omega), Gp]
  have h1 := Qxh line s hs out w
  by_cases hw : w = []
  ·rw [if_pos hw] at h1 ⊢
   rw [Ux _ h1, Kd _ (Qgp line s hs _ _)]; rfl
  ·rw [if_neg hw] at h1 ⊢
   by_cases h8 : out.length + 1 > 8
   ·rw [if_pos h8] at h1 ⊢
    rw [Zf _ h1]; rfl
   ·rw [if_neg h8] at h1 ⊢
    rw [Ux _ h1, Kd _ (Qgp line s hs _ _)]; rfl
 | m + 1, i, out, w, h, fuel + 1, hf => by
  have hl : s.data.toList.length = s.size := Array.length_toList
  have hb : s.data.toList.drop i = s.data.toList.getD i 0 :: s.data.toList.drop (i + 1) := by
   rw [List.drop_eq_getElem_cons (by omega), List.getD_eq_getElem?_getD, List.getElem?_eq_getElem (by omega)]; rfl
  rw [hb, Gp]
  have h1 := Qsj line s hs out w i (by omega) _ rfl
  generalize s.data.toList.getD i 0 = b at h1 ⊢
  have ei : ((i : Int) + 1) = ((i + 1 : Nat) : Int) := rfl
  rw [ei] at h1
  by_cases hok : okB b = false
  ·rw [if_pos hok] at h1 ⊢
   rw [Zf _ h1]; rfl
  ·rw [if_neg hok] at h1 ⊢
   by_cases hc : b = 32
   ·rw [if_pos hc] at h1 ⊢
    by_cases hw : w = []
    ·rw [if_pos hw] at h1 ⊢
     rw [Ux _ h1, hw]
     exact Xy line s hs m (i + 1) out [] (by omega) fuel (by omega)
    ·rw [if_neg hw] at h1 ⊢
     by_cases h8 : out.length + 1 > 8
     ·rw [if_pos h8] at h1 ⊢
      rw [Zf _ h1]; rfl
     ·rw [if_neg h8] at h1 ⊢
      rw [Ux _ h1]
      exact Xy line s hs m (i + 1) (out ++ [mkB w]) [] (by omega) fuel (by omega)
   ·rw [if_neg hc] at h1 ⊢
    by_cases h24 : w.length + 1 > 24
    ·rw [if_pos h24] at h1 ⊢
     rw [Zf _ h1]; rfl
    ·rw [if_neg h24] at h1 ⊢
     rw [Ux _ h1]
     exact Xy line s hs m (i + 1) out (w ++ [b]) (by omega) fuel (by omega)
theorem Ts (line : ByteArray) : F26 line = Ww (cut3 line (⟨#[35]⟩ : ByteArray)).1.data.toList := by
 unfold F26
 have := Xy line _ rfl (cut3 line (⟨#[35]⟩ : ByteArray)).1.size 0 [] [] (by omega) (Int.toNat (((cut3 line (⟨#[35]⟩ : ByteArray)).1.size : Int) - 0 + 1) + 1) (by omega)
 rw [List.drop_zero, Hg _ _ _ (by simp) (by simp) (by simp), List.nil_append, List.nil_append, List.length_nil, Nat.zero_add] at this
 exact this
theorem Qek (b : UInt8) : IntKind.i64.wrap ((b.toNat : Int)) = (b.toNat : Int) := by
 have h := b.toNat_lt
 exact Zb (by omega) (by omega)
theorem Qci (line s : ByteArray) (hs : (cut3 line (⟨#[35]⟩ : ByteArray)).1 = s) {τ : Type} (f : List ByteArray × Bool → τ) (g : Int → τ) (y : τ) (hg : ∀ i, g i = y) : ∀ (m i : Nat), i + m = s.size → ∀ fuel, m < fuel →
  (runL (Jd line) fuel (i : Int)).fin f g = bif (s.data.toList.drop i).all okB then y else f ([], false)
 | m, i, _, 0, hf => absurd hf (Nat.not_lt_zero _)
 | 0, i, h, fuel + 1, hf => by
  have hl : s.data.toList.length = s.size := Array.length_toList
  have h1 : decide ((i : Int) < (s.size : Int)) = false := decide_eq_false (by omega)
  have hst : Jd line (i : Int) = .done (i : Int) := by
   simp only [Jd, F66, hs, h1, cond_false]
  rw [List.drop_of_length_le (by omega), Kd _ hst]
  exact hg _
 | m + 1, i, h, fuel + 1, hf => by
  have hl : s.data.toList.length = s.size := Array.length_toList
  have h1 : decide ((i : Int) < (s.size : Int)) = true := decide_eq_true (by omega)
  have hb : s.data.toList.drop i = s.data.toList.getD i 0 :: s.data.toList.drop (i + 1) := by
   rw [List.drop_eq_getElem_cons (by omega), List.getD_eq_getElem?_getD, List.getElem?_eq_getElem (by omega)]; rfl
  have hst : Jd line (i : Int) = if okB (s.data.toList.getD i 0) = false then .ret ([], false) else .next ((i + 1 : Nat) : Int) := by
   simp only [Jd, F66, hs, h1, cond_true, Int.toNat_natCast, Zl, Qek]
   generalize s.data.toList.getD i 0 = b
   have e : decide ((32 : Int) ≤ (b.toNat : Int) ∧ (b.toNat : Int) ≤ 126) = okB b := by
    unfold okB
    congr 1
    exact propext ⟨fun h => by omega, fun h => by omega⟩
   rw [e]
   cases okB b <;> rfl
  rw [hb, List.all_cons]
  generalize s.data.toList.getD i 0 = b at hst ⊢
  by_cases hok : okB b = false
  ·rw [if_pos hok] at hst
   rw [Zf _ hst, hok]; rfl
  ·rw [if_neg hok] at hst
   rw [Ux _ hst, Qci line s hs f g y hg m (i + 1) (by omega) fuel (by omega)]
   cases ho : okB b with
   | false => exact absurd ho hok
   | true => rw [Bool.true_and]
theorem isE (x : ByteArray) : (x.toList == (⟨#[]⟩ : ByteArray).toList) = x.data.toList.isEmpty := by
 rw [Ua, Ua]
 cases x.data.toList <;> rfl
theorem Qdt (s : ByteArray) : (Qw s (⟨#[32]⟩ : ByteArray)).filter (fun x => !(x.toList == (⟨#[]⟩ : ByteArray).toList)) = (Ud s.data.toList).map mkB := by
 rw [Ud, ← Ty, List.filter_map, List.map_map]
 have e : (fun x : ByteArray => !(x.toList == (⟨#[]⟩ : ByteArray).toList)) = ((fun w : List UInt8 => !w.isEmpty) ∘ fun x : ByteArray => x.data.toList) := by
  funext x
  rw [isE]; rfl
 rw [e]
 exact ((List.map_congr_left fun x _ => Qae x).trans (List.map_id _)).symm
theorem Qgh : ∀ ws : List (List UInt8), ws.any ((fun x : ByteArray => decide ((x.size : Int) > 24)) ∘ mkB) = !ws.all fun w => decide (w.length ≤ 24)
 | [] => rfl
 | w :: ws => by
  rw [List.any_cons, List.all_cons, Qgh ws, Bool.not_and]
  congr 1
  have : (mkB w).size = w.length := rfl
  show decide (((mkB w).size : Int) > 24) = _
  rw [this]
  by_cases h : w.length ≤ 24
  ·rw [decide_eq_true h, decide_eq_false (by omega)]; rfl
  ·rw [decide_eq_false h, decide_eq_true (by omega)]; rfl
theorem Bs (line : ByteArray) : F72 line = Ww (cut3 line (⟨#[35]⟩ : ByteArray)).1.data.toList := by
 generalize hs : (cut3 line (⟨#[35]⟩ : ByteArray)).1 = s
 unfold F72
 have h1 := Qci line s hs (fun r => r) (fun _ => bif (bif decide ((((Ud s.data.toList).map mkB).length : Int) > 8) then true else ((Ud s.data.toList).map mkB).any fun x => decide ((x.size : Int) > 24)) then (([] : List ByteArray), false) else ((Ud s.data.toList).map mkB, true)) _ (fun _ => rfl) s.size 0 (by omega) (Int.toNat ((s.size : Int) - 0) + 1) (by omega)
 have hf : (Qw s (⟨#[32]⟩ : ByteArray)).filter (fun x => !F85 x) = (Ud s.data.toList).map mkB := Qdt s
 simp only [F66, F62, hs, hf]
 refine h1.trans ?_
 rw [List.drop_zero, Ww, fitW, List.length_map, List.any_map]
 have e1 : decide (((Ud s.data.toList).length : Int) > 8) = !decide ((Ud s.data.toList).length ≤ 8) := by
  by_cases h : (Ud s.data.toList).length ≤ 8
  ·rw [decide_eq_true h, decide_eq_false (by omega)]; rfl
  ·rw [decide_eq_false h, decide_eq_true (by omega)]; rfl
 rw [e1, Qgh]
 cases (s.data.toList.all okB) <;> cases decide ((Ud s.data.toList).length ≤ 8) <;> cases ((Ud s.data.toList).all fun w => decide (w.length ≤ 24)) <;> rfl
theorem Gd (line : ByteArray) : F72 line = F26 line := (Bs line).trans (Ts line).symm
theorem Qgc (l : List UInt8) : (Ww l).1.length ≤ 8 := by
 unfold Ww fitW
 by_cases h : (Ud l).length ≤ 8
 ·cases l.all okB <;> cases ((Ud l).all fun w => decide (w.length ≤ 24)) <;> simp [h]
 ·rw [decide_eq_false h, Bool.false_and, Bool.and_false]
  exact Nat.zero_le _
theorem Qcc (line : ByteArray) : (F72 line).1.length ≤ 8 := by
 rw [Bs]; exact Qgc _
def Kc (s : ByteArray) (at' : Int) : (List ByteArray × Int × Int) → Lp (List ByteArray × Int × Int) (List ByteArray) := fun (out1, from'1, i40) =>
 bif (decide (i40 < (s.size : Int))) then (bif (((s.data.getD (Int.toNat i40) 0).toNat : Int) == (at' % 256)) then (.next ((out1 ++ [(s.extract (Int.toNat from'1) (Int.toNat i40))]), (i40 + 1), (i40 + 1))) else (.next (out1, from'1, (i40 + 1)))) else (.done (out1, from'1, i40))
def Pj (s : ByteArray) (at' : Int) : Lp (List ByteArray × Int) (List ByteArray) :=
 (runL (Kc s at') ((Int.toNat ((s.size : Int) - 0)) + 1) (([] : List ByteArray), 0, 0)).fin Lp.ret (fun (out1, from'1, i40) => .done (out1, from'1))
def F56 (s : ByteArray) (at' : Int) : List ByteArray :=
 (Pj s at').fin (fun r => r) (fun (out, from') => (out ++ [(s.extract (Int.toNat from') (Int.toNat (s.size : Int)))]))
abbrev Nt (s : ByteArray) : Nat × (List ByteArray × Int × Int) := (((Int.toNat ((s.size : Int) - 0)) + 1), (([] : List ByteArray), 0, 0))
abbrev Qid (s : ByteArray) (m39 : Nat) (out1 : List ByteArray) (from'1 : Int) (i40 : Int) : Prop := Int.toNat ((s.size : Int) - i40) < m39 ∧ (0 : Int) ≤ from'1 ∧ (from'1 : Int) ≤ i40 ∧ (out1.length : Int) ≤ i40 ∧ i40 ≤ (s.size : Int) ∧ (0 : Int) ≤ from'1 ∧ (0 : Int) ≤ i40
abbrev Qpj (s : ByteArray) (at' : Int) : Lp (List ByteArray × Int × Int) (List ByteArray) := LpX (Kc s at') (Nt s)
abbrev Nz (s : ByteArray) (at' : Int) (i : Nat × (List ByteArray × Int × Int)) : Prop := LpJ (Kc s at') (Nt s) i (Qid s i.1 i.2.1 i.2.2.1 i.2.2.2)
abbrev Qqt (s : ByteArray) (at' : Int) (i : Nat × (List ByteArray × Int × Int)) (m39 : Nat) (out1 : List ByteArray) (from'1 : Int) (i40 : Int) : Prop := LpH (Kc s at') (Nt s) i m39 (out1, from'1, i40) (Qid s (m39 + 1) out1 from'1 i40)
abbrev Qvc (s : ByteArray) (at' : Int) (out1 : List ByteArray) (from'1 : Int) (i40 : Int) (out1_ : List ByteArray) (from'1_ : Int) (i40_ : Int) (K39 : Prop) : Prop := (Rf (.string s)) ∧ (Rf (.int .u8 (at' % 256))) ∧ ((.int .i64 from'1 : Value) = .int .i64 from'1_) ∧ ((.int .i64 i40 : Value) = .int .i64 i40_) ∧ (Imp (.l 1 eStr out1) (.l 1 eStr out1_)) ∧ K39
theorem un56_0 (s : ByteArray) (at' : Int) (i : Nat × (List ByteArray × Int × Int)) (h : Nz s at' i) : Qqt s at' i (i.1 - 1) i.2.1 i.2.2.1 i.2.2.2 := ⟨hd1 h.1 h.2.1, hd3 h.2.1, hd2 h.2.1, h.2.2⟩
theorem Qqu (s : ByteArray) (at' : Int) (i : Nat × (List ByteArray × Int × Int)) (m39 : Nat) (out1 : List ByteArray) (from'1 : Int) (i40 : Int) (hl : m39 < i.1) (e : runL (Kc s at') m39 (out1, from'1, i40) = Qpj s at') (h : Qid s m39 out1 from'1 i40) : ∃ j : Nat × (List ByteArray × Int × Int), Qvc s at' out1 from'1 i40 j.2.1 j.2.2.1 j.2.2.2 (Nz s at' j ∧ j.1 < i.1) := ⟨(m39, (out1, from'1, i40)), rfl, rfl, rfl, rfl, Imp.refl _, ⟨e, h⟩, hl⟩
theorem en56_0 (s : ByteArray) (at' : Int) (h : (0 : Int) ≤ 0 ∧ (0 : Int) ≤ 0 ∧ (([] : List ByteArray).length : Int) ≤ 0 ∧ 0 ≤ (s.size : Int) ∧ (0 : Int) ≤ 0 ∧ (0 : Int) ≤ 0) : Qvc s at' ([] : List ByteArray) 0 0 ([] : List ByteArray) 0 0 (Nz s at' (Nt s)) := ⟨rfl, rfl, rfl, rfl, Imp.refl _, rfl, Nat.lt_succ_self _, h⟩
abbrev Qju (s : ByteArray) (at' : Int) (out : List ByteArray) (from' : Int) : Prop := (0 : Int) ≤ from' ∧ from' ≤ (s.size : Int) ∧ (out.length : Int) ≤ (s.size : Int)
abbrev Qkd (s : ByteArray) (at' : Int) (j : List ByteArray × Int) : Prop := (Pj s at') = Lp.done j ∧ Qju s at' j.1 j.2
theorem jn56_0 (s : ByteArray) (at' : Int) (out : List ByteArray) (from' : Int) (e : (Pj s at') = Lp.done (out, from')) (h : Qju s at' out from') : ∃ j : List ByteArray × Int, ((.string s : Value) = .string s) ∧ ((.int .i64 from' : Value) = .int .i64 j.2) ∧ (Imp (.l 1 eStr out) (.l 1 eStr j.1)) ∧ Qkd s at' j := ⟨(out, from'), rfl, rfl, Imp.refl _, e, h⟩
theorem fi56 (s : ByteArray) (at' : Int) (r : List ByteArray) (hF : r = (F56 s at')) : (Imp (.l 1 eStr r) (.l 1 eStr (F56 s at'))) ∧ True := by cases hF; exact ⟨Imp.refl _, trivial⟩
def S56 (s : ByteArray) (at' : Int) : Spec := ⟨[.r (.c (.v (.string s))), .r (.c (.v (.int .u8 (at' % 256))))], .ow (.l 1 eStr (F56 s at')), s.size ≤ 1048576⟩
theorem ok56 (s : ByteArray) (at' : Int) : (S56 s at').ok Tryz.prog 56 :=
 Ql mixed (fn := Tryz.f56) (ct := .seq .no (.seq (.reg [(0, .dat (.l 1 eStr ([] : List ByteArray)))]) (.seq .no (.cut (ι := List ByteArray × Int) (fun j => (fun (out : List ByteArray) (from' : Int) => (⟨[(0, some (.v (.string s))), (5, some (.h 0 0)), (6, some (.v (vI from')))], [(0, some (.own 0 (.l 1 eStr out)))], 1⟩ : St)) j.1 j.2) (Qkd s at') (.seqk [(5, 0)] .no (.blk (.loop (ι := Nat × (List ByteArray × Int × Int)) (fun i => (fun (out1 : List ByteArray) (from'1 : Int) (i40 : Int) => (⟨[(0, some (.v (.string s))), (1, some (.v (.int .u8 (at' % 256)))), (5, some (.h 0 0)), (6, some (.v (vI from'1))), (7, some (.v (vI i40)))], [(0, some (.own 0 (.l 1 eStr out1)))], 1⟩ : St)) i.2.1 i.2.2.1 i.2.2.2) (Nz s at') (fun i => i.1) (Nt s) (fun i => (fun (out1 : List ByteArray) (from'1 : Int) (i40 : Int) => (.seq (.seq .no (.cond .no .no)) (.seq (.blk (.seq .no (.cond (.seq (.reg [(6, .dat (.l 1 eStr (out1 ++ [(s.extract (Int.toNat from'1) (Int.toNat i40))])))]) (.reg [(1, .bnd)])) .no))) (.reg [(1, .bnd)])))) i.2.1 i.2.2.1 i.2.2.2)))) (fun j => (fun (out : List ByteArray) (from' : Int) => (.seq (.reg [(5, .dat (.l 1 eStr (out ++ [(s.extract (Int.toNat from') (Int.toNat (s.size : Int)))])))]) .no)) j.1 j.2))))) Tryz.func56 (fun (hpre0 : s.size ≤ 1048576) => ai (bokr 1 eStr ([] : List ByteArray) fun _ => rfl) (ai (kn ([] : List ByteArray) fun _ => ai (en56_0 s at' (by refine ⟨?_, ?_, ?_, ?_, ?_, ?_⟩ <;> first | omega | (simp only [lens, ib] at * <;> omega))) (fun (i0 : Nat × (List ByteArray × Int × Int)) (hi0 : Nz s at' i0) => (fun (m0 : Nat) (out1 : List ByteArray) (from'1 : Int) (i40 : Int) (hh0 : Qqt s at' i0 m0 out1 from'1 i40) => have hI0 := hh0.1; have hl0 := hh0.2.1; have _ := hh0.2.2.1; have _ := hh0.2.2.2; ifd (i40 < (s.size : Int)) (fun h2 _ => ai (by first | omega | (simp only [lens, ib] at * <;> omega) : 0 ≤ i40 ∧ i40 < (s.size : Int)) (ife ((s.data.getD (Int.toNat i40) 0).toNat : Int) (at' % 256) (fun h3 _ => ai (by first | omega | (simp only [lens, ib] at * <;> omega) : 0 ≤ from'1 ∧ from'1 ≤ i40 ∧ i40 ≤ (s.size : Int)) (ai (appr 1 eStr out1 [(s.extract (Int.toNat from'1) (Int.toNat i40))] fun _ => rfl) (ai (by (try simp only [lens]); omega : (out1 ++ [(s.extract (Int.toNat from'1) (Int.toNat i40))]).length * 16 ≤ 140737488355328) (ai (iok (i40 + 1) (by first | omega | (simp only [lens, ib] at * <;> omega))) (ai (iok (i40 + 1) (by first | omega | (simp only [lens, ib] at * <;> omega))) (Qqu s at' i0 m0 (out1 ++ [(s.extract (Int.toNat from'1) (Int.toNat i40))]) (i40 + 1) (i40 + 1) hl0 (Qe hI0 (condT h2 (condT h3 rfl))) (by refine ⟨?_, ?_, ?_, ?_, ?_, ?_, ?_⟩ <;> first | omega | (simp only [lens, ib] at * <;> omega)))))))) (fun h3 _ => ai (iok (i40 + 1) (by first | omega | (simp only [lens, ib] at * <;> omega))) (Qqu s at' i0 m0 out1 from'1 (i40 + 1) hl0 (Qe hI0 (condT h2 (condF h3 rfl))) (by refine ⟨?_, ?_, ?_, ?_, ?_, ?_, ?_⟩ <;> first | omega | (simp only [lens, ib] at * <;> omega)))))) (fun h2 _ => have hD0_4 : Qpj s at' = Lp.done (out1, from'1, i40) := Qk hI0 (condF h2 rfl); jn56_0 s at' out1 from'1 (Eq.symm (finD hD0_4 rfl)) (by refine ⟨?_, ?_, ?_⟩ <;> first | omega | (simp only [lens, ib] at * <;> omega)))) (i0.1 - 1) i0.2.1 i0.2.2.1 i0.2.2.2 (un56_0 s at' i0 hi0))) (fun (j : List ByteArray × Int) (hj : Qkd s at' j) => (fun (out : List ByteArray) (from' : Int) (hJ0_5 : (Pj s at') = Lp.done (out, from')) (hw : Qju s at' out from') => have _ := hw.1; have _ := hw.2.1; have _ := hw.2.2; ai (by first | omega | (simp only [lens, ib] at * <;> omega) : 0 ≤ from' ∧ from' ≤ (s.size : Int) ∧ (s.size : Int) ≤ (s.size : Int)) (ai (appr 1 eStr out [(s.extract (Int.toNat from') (Int.toNat (s.size : Int)))] fun _ => rfl) (ai (by (try simp only [lens]); omega : (out ++ [(s.extract (Int.toNat from') (Int.toNat (s.size : Int)))]).length * 16 ≤ 140737488355328) (fi56 s at' (out ++ [(s.extract (Int.toNat from') (Int.toNat (s.size : Int)))]) (finD hJ0_5 rfl))))) j.1 j.2 hj.1 hj.2))) (by kernel_rfl)
def F59 (n : Int) (low : Int) (high : Int) : Bool :=
 (bif decide (n ≥ low) then decide (n ≤ high) else false)
def S59 (R : Bool) (n : Int) (low : Int) (high : Int) : Spec := ⟨[.r (.c (.v (vI n))), .r (.c (.v (vI low))), .r (.c (.v (vI high)))], .v (.bool R), True⟩
theorem ok59 (n : Int) (low : Int) (high : Int) : (S59 (F59 n low high) n low high).ok Tryz.prog 59 :=
 Ql mixed (fn := Tryz.f59) (ct := .seq .no (.seq .no .no)) Tryz.func59 (fun (_ : True) => fiB (bif decide (n ≥ low) then decide (n ≤ high) else false) (F59 n low high) rfl) (by kernel_rfl)
theorem as59 (n : Int) (low : Int) (high : Int) : F59 n low high = (decide (low ≤ n ∧ n ≤ high)) := by
 simp only [F59, Bool.decide_and, bandd]
theorem oa59 (n : Int) (low : Int) (high : Int) : (S59 (decide (low ≤ n ∧ n ≤ high)) n low high).ok Tryz.prog 59 := by
 intro hp; have h := ok59 n low high hp; rw [as59 n low high] at h; exact h
theorem Qfs (n : Int) (low : Int) (high : Int) {K_ : Prop} (k_ : K_) : (True) ∧ (Imp (.v (vI n)) (.v (vI n))) ∧ (Imp (.v (vI low)) (.v (vI low))) ∧ (Imp (.v (vI high)) (.v (vI high))) ∧ K_ := ⟨trivial, Imp.refl _, Imp.refl _, Imp.refl _, k_⟩
abbrev Qax (n : Int) (low : Int) (high : Int) : Hint true Tryz.prog := .call 59 (S59 (decide (low ≤ n ∧ n ≤ high)) n low high) (oa59 n low high) none
theorem kg59a {K_ : Prop} (c_ b_ : Bool) (n : Int) (low : Int) (high : Int) (k_ : K_) : (c_ = b_ → True) ∧ (c_ = b_ → Imp (.v (vI n)) (.v (vI n))) ∧ (c_ = b_ → Imp (.v (vI low)) (.v (vI low))) ∧ (c_ = b_ → Imp (.v (vI high)) (.v (vI high))) ∧ K_ := ⟨fun _ => trivial, fun _ => Imp.refl _, fun _ => Imp.refl _, fun _ => Imp.refl _, k_⟩
def Wn (s : ByteArray) : Int → Lp Int Bool := fun i40 =>
 bif (decide (i40 < (s.size : Int))) then (bif (bif (bif (!(decide (97 ≤ (IntKind.i64.wrap ((s.data.getD (Int.toNat i40) 0).toNat : Int)) ∧ (IntKind.i64.wrap ((s.data.getD (Int.toNat i40) 0).toNat : Int)) ≤ 122))) then (!(decide (48 ≤ (IntKind.i64.wrap ((s.data.getD (Int.toNat i40) 0).toNat : Int)) ∧ (IntKind.i64.wrap ((s.data.getD (Int.toNat i40) 0).toNat : Int)) ≤ 57))) else false) then (((s.data.getD (Int.toNat i40) 0).toNat : Int) != 45) else false) then (.ret false) else (.next (i40 + 1))) else (.done i40)
def F126 (s : ByteArray) : Bool :=
 bif (!(decide (1 ≤ (s.size : Int) ∧ (s.size : Int) ≤ 8))) then false else ((runL (Wn s) ((Int.toNat ((s.size : Int) - 0)) + 1) 0).fin (fun r => r) (fun i40 => true))
abbrev Gj (s : ByteArray) : Nat × Int := (((Int.toNat ((s.size : Int) - 0)) + 1), 0)
abbrev Qdo (s : ByteArray) (m39 : Nat) (i40 : Int) : Prop := Int.toNat ((s.size : Int) - i40) < m39 ∧ (0 : Int) ≤ i40
abbrev Qma (s : ByteArray) : Lp Int Bool := LpX (Wn s) (Gj s)
abbrev Hl (s : ByteArray) (i : Nat × Int) : Prop := LpJ (Wn s) (Gj s) i (Qdo s i.1 i.2)
abbrev Qmb (s : ByteArray) (i : Nat × Int) (m39 : Nat) (i40 : Int) : Prop := LpH (Wn s) (Gj s) i m39 i40 (Qdo s (m39 + 1) i40)
abbrev Qlp (s : ByteArray) (i40 : Int) (i40_ : Int) (K39 : Prop) : Prop := (Rf (.string s)) ∧ ((.int .i64 i40 : Value) = .int .i64 i40_) ∧ K39
theorem Qyr (s : ByteArray) (i : Nat × Int) (h : Hl s i) : Qmb s i (i.1 - 1) i.2 := ⟨hd1 h.1 h.2.1, hd3 h.2.1, hd2 h.2.1, h.2.2⟩
theorem Qxu (s : ByteArray) (i : Nat × Int) (m39 : Nat) (i40 : Int) (hl : m39 < i.1) (e : runL (Wn s) m39 i40 = Qma s) (h : Qdo s m39 i40) : ∃ j : Nat × Int, Qlp s i40 j.2 (Hl s j ∧ j.1 < i.1) := ⟨(m39, i40), rfl, rfl, ⟨e, h⟩, hl⟩
theorem Qxv (s : ByteArray) (h : (0 : Int) ≤ 0) : Qlp s 0 0 (Hl s (Gj s)) := ⟨rfl, rfl, rfl, Nat.lt_succ_self _, h⟩
def S126 (s : ByteArray) : Spec := ⟨[.r (.c (.v (.string s)))], .v (.bool (F126 s)), s.size ≤ 1048576⟩
theorem ok126 (s : ByteArray) : (S126 s).ok Tryz.prog 126 :=
 Ql mixed (fn := Tryz.f126) (ct := .seq .no (.seq (.seq (.reg [(2, Qax (s.size : Int) 1 8)]) (.cond (.seq .no .no) .no)) (.seq (.seq .no (.blk (.loop (ι := Nat × Int) (fun i => (fun (i40 : Int) => (⟨[(0, some (.v (.string s))), (3, some (.v (vI i40)))], [], 0⟩ : St)) i.2) (Hl s) (fun i => i.1) (Gj s) (fun i => (fun (i40 : Int) => (.seq (.seq .no (.cond .no .no)) (.seq (.blk (.seq (.reg [(4, Qax (IntKind.i64.wrap ((s.data.getD (Int.toNat i40) 0).toNat : Int)) 97 122), (11, Qax (IntKind.i64.wrap ((s.data.getD (Int.toNat i40) 0).toNat : Int)) 48 57)]) (.cond (.seq .no .no) .no))) (.reg [(1, .bnd)])))) i.2)))) (.seq .no .no)))) Tryz.func126 (fun (hpre0 : s.size ≤ 1048576) => Qfs (s.size : Int) 1 8 (ifb (!(decide (1 ≤ (s.size : Int) ∧ (s.size : Int) ≤ 8))) (fun h1 => have _ := of_decide_eq_false (Wr h1); fiB false (F126 s) (condT h1 rfl)) (fun h1 => have _ := of_decide_eq_true (Yl h1); ai (Qxv s (by omega)) (fun (i0 : Nat × Int) (hi0 : Hl s i0) => (fun (m0 : Nat) (i40 : Int) (hh0 : Qmb s i0 m0 i40) => have hI0 := hh0.1; have hl0 := hh0.2.1; have _ := hh0.2.2.1; have _ := hh0.2.2.2; ifd (i40 < (s.size : Int)) (fun h3 _ => ai (by omega : 0 ≤ i40 ∧ i40 < (s.size : Int)) (Qfs (IntKind.i64.wrap ((s.data.getD (Int.toNat i40) 0).toNat : Int)) 97 122 (ai (fun k4 : (!(decide (97 ≤ (IntKind.i64.wrap ((s.data.getD (Int.toNat i40) 0).toNat : Int)) ∧ (IntKind.i64.wrap ((s.data.getD (Int.toNat i40) 0).toNat : Int)) ≤ 122))) = true => have _ := of_decide_eq_false (Wr k4); (by omega : 0 ≤ i40 ∧ i40 < (s.size : Int))) (kg59a (!(decide (97 ≤ (IntKind.i64.wrap ((s.data.getD (Int.toNat i40) 0).toNat : Int)) ∧ (IntKind.i64.wrap ((s.data.getD (Int.toNat i40) 0).toNat : Int)) ≤ 122))) true (IntKind.i64.wrap ((s.data.getD (Int.toNat i40) 0).toNat : Int)) 48 57 (ai (fun k6 : (bif (!(decide (97 ≤ (IntKind.i64.wrap ((s.data.getD (Int.toNat i40) 0).toNat : Int)) ∧ (IntKind.i64.wrap ((s.data.getD (Int.toNat i40) 0).toNat : Int)) ≤ 122))) then (!(decide (48 ≤ (IntKind.i64.wrap ((s.data.getD (Int.toNat i40) 0).toNat : Int)) ∧ (IntKind.i64.wrap ((s.data.getD (Int.toNat i40) 0).toNat : Int)) ≤ 57))) else false) = true => have _ := of_decide_eq_false (Wr (Qi k6)); have _ := of_decide_eq_false (Wr (Qv k6)); (by omega : 0 ≤ i40 ∧ i40 < (s.size : Int))) (ifb (bif (bif (!(decide (97 ≤ (IntKind.i64.wrap ((s.data.getD (Int.toNat i40) 0).toNat : Int)) ∧ (IntKind.i64.wrap ((s.data.getD (Int.toNat i40) 0).toNat : Int)) ≤ 122))) then (!(decide (48 ≤ (IntKind.i64.wrap ((s.data.getD (Int.toNat i40) 0).toNat : Int)) ∧ (IntKind.i64.wrap ((s.data.getD (Int.toNat i40) 0).toNat : Int)) ≤ 57))) else false) then (((s.data.getD (Int.toNat i40) 0).toNat : Int) != 45) else false) (fun h7 => have _ := of_decide_eq_false (Wr (Qi (Qi h7))); have _ := of_decide_eq_false (Wr (Qv (Qi h7))); have _ := bneT (Qv h7); fiB false (F126 s) (condF h1 (finR (Qt hI0 (condT h3 (condT h7 rfl))) rfl))) (fun h7 => ai (iok (i40 + 1) (by omega)) (Qxu s i0 m0 (i40 + 1) hl0 (Qe hI0 (condT h3 (condF h7 rfl))) (by refine ⟨?_, ?_⟩ <;> omega))))))))) (fun h3 _ => have hD0_8 : Qma s = Lp.done i40 := Qk hI0 (condF h3 rfl); fiB true (F126 s) (condF h1 (finD hD0_8 rfl)))) (i0.1 - 1) i0.2 (Qyr s i0 hi0))))) (by kernel_rfl)
def Jc (s : ByteArray) : (Int × Int) → Lp (Int × Int) Int := fun (n, i40) =>
 bif (decide (i40 < (s.size : Int))) then (bif (!(decide (48 ≤ (IntKind.i64.wrap ((s.data.getD (Int.toNat i40) 0).toNat : Int)) ∧ (IntKind.i64.wrap ((s.data.getD (Int.toNat i40) 0).toNat : Int)) ≤ 57))) then (.ret (-1)) else (.next ((IntKind.i64.wrap ((IntKind.i64.wrap (n * 10)) + (IntKind.i64.wrap (IntKind.u8.wrap (((s.data.getD (Int.toNat i40) 0).toNat : Int) - 48))))), (i40 + 1)))) else (.done (n, i40))
def F34 (s : ByteArray) : Int :=
 bif (bif (!(decide (1 ≤ (s.size : Int) ∧ (s.size : Int) ≤ 6))) then true else (bif decide ((s.size : Int) > 1) then (((s.data.getD (Int.toNat 0) 0).toNat : Int) == 48) else false)) then (-1) else ((runL (Jc s) ((Int.toNat ((s.size : Int) - 0)) + 1) (0, 0)).fin (fun r => r) (fun (n, i40) => n))
abbrev Rt (s : ByteArray) : Nat × (Int × Int) := (((Int.toNat ((s.size : Int) - 0)) + 1), (0, 0))
abbrev Qjj (s : ByteArray) (m39 : Nat) (n : Int) (i40 : Int) : Prop := Int.toNat ((s.size : Int) - i40) < m39 ∧ (0 : Int) ≤ i40
abbrev Qrx (s : ByteArray) : Lp (Int × Int) Int := LpX (Jc s) (Rt s)
abbrev Ni (s : ByteArray) (i : Nat × (Int × Int)) : Prop := LpJ (Jc s) (Rt s) i (Qjj s i.1 i.2.1 i.2.2)
abbrev Qsb (s : ByteArray) (i : Nat × (Int × Int)) (m39 : Nat) (n : Int) (i40 : Int) : Prop := LpH (Jc s) (Rt s) i m39 (n, i40) (Qjj s (m39 + 1) n i40)
abbrev Qxg (s : ByteArray) (n : Int) (i40 : Int) (n_ : Int) (i40_ : Int) (K39 : Prop) : Prop := (Rf (.string s)) ∧ ((.int .i64 n : Value) = .int .i64 n_) ∧ ((.int .i64 i40 : Value) = .int .i64 i40_) ∧ K39
theorem un34_0 (s : ByteArray) (i : Nat × (Int × Int)) (h : Ni s i) : Qsb s i (i.1 - 1) i.2.1 i.2.2 := ⟨hd1 h.1 h.2.1, hd3 h.2.1, hd2 h.2.1, h.2.2⟩
theorem bk34_0 (s : ByteArray) (i : Nat × (Int × Int)) (m39 : Nat) (n : Int) (i40 : Int) (hl : m39 < i.1) (e : runL (Jc s) m39 (n, i40) = Qrx s) (h : Qjj s m39 n i40) : ∃ j : Nat × (Int × Int), Qxg s n i40 j.2.1 j.2.2 (Ni s j ∧ j.1 < i.1) := ⟨(m39, (n, i40)), rfl, rfl, rfl, ⟨e, h⟩, hl⟩
theorem en34_0 (s : ByteArray) (h : (0 : Int) ≤ 0) : Qxg s 0 0 0 0 (Ni s (Rt s)) := ⟨rfl, rfl, rfl, rfl, Nat.lt_succ_self _, h⟩
def S34 (s : ByteArray) : Spec := ⟨[.r (.c (.v (.string s)))], .v (vI (F34 s)), s.size ≤ 1048576⟩
theorem ok34 (s : ByteArray) : (S34 s).ok Tryz.prog 34 :=
 Ql mixed (fn := Tryz.f34) (ct := .seq .no (.seq (.seq (.reg [(2, Qax (s.size : Int) 1 6)]) (.cond (.seq .no .no) .no)) (.seq .no (.seq (.seq .no (.blk (.loop (ι := Nat × (Int × Int)) (fun i => (fun (n : Int) (i40 : Int) => (⟨[(0, some (.v (.string s))), (3, some (.v (vI n))), (4, some (.v (vI i40)))], [], 0⟩ : St)) i.2.1 i.2.2) (Ni s) (fun i => i.1) (Rt s) (fun i => (fun (n : Int) (i40 : Int) => (.seq (.seq .no (.cond .no .no)) (.seq (.blk (.seq (.seq (.reg [(4, Qax (IntKind.i64.wrap ((s.data.getD (Int.toNat i40) 0).toNat : Int)) 48 57)]) (.cond (.seq .no .no) .no)) .no)) (.reg [(1, .bnd)])))) i.2.1 i.2.2)))) (.seq .no .no))))) Tryz.func34 (fun (hpre0 : s.size ≤ 1048576) => Qfs (s.size : Int) 1 6 (ai (fun k2 : (decide ((s.size : Int) > 1)) = true => have _ := of_decide_eq_true k2; (fun k1 : (!(decide (1 ≤ (s.size : Int) ∧ (s.size : Int) ≤ 6))) = false => have _ := of_decide_eq_true (Yl k1); (by omega : 0 ≤ (0 : Int) ∧ (0 : Int) < (s.size : Int)))) (ifb (bif (!(decide (1 ≤ (s.size : Int) ∧ (s.size : Int) ≤ 6))) then true else (bif decide ((s.size : Int) > 1) then (((s.data.getD (Int.toNat 0) 0).toNat : Int) == 48) else false)) (fun h3 => fiI (-1) (F34 s) (condT h3 rfl)) (fun h3 => have _ := of_decide_eq_true (Yl (orF1 h3)); ai (en34_0 s (by omega)) (fun (i0 : Nat × (Int × Int)) (hi0 : Ni s i0) => (fun (m0 : Nat) (n : Int) (i40 : Int) (hh0 : Qsb s i0 m0 n i40) => have hI0 := hh0.1; have hl0 := hh0.2.1; have _ := hh0.2.2.1; have _ := hh0.2.2.2; ifd (i40 < (s.size : Int)) (fun h5 _ => ai (by omega : 0 ≤ i40 ∧ i40 < (s.size : Int)) (Qfs (IntKind.i64.wrap ((s.data.getD (Int.toNat i40) 0).toNat : Int)) 48 57 (ifb (!(decide (48 ≤ (IntKind.i64.wrap ((s.data.getD (Int.toNat i40) 0).toNat : Int)) ∧ (IntKind.i64.wrap ((s.data.getD (Int.toNat i40) 0).toNat : Int)) ≤ 57))) (fun h6 => have _ := of_decide_eq_false (Wr h6); fiI (-1) (F34 s) (condF h3 (finR (Qt hI0 (condT h5 (condT h6 rfl))) rfl))) (fun h6 => have _ := of_decide_eq_true (Yl h6); ai (by omega : 0 ≤ i40 ∧ i40 < (s.size : Int)) (ai (iok (i40 + 1) (by omega)) (bk34_0 s i0 m0 (IntKind.i64.wrap ((IntKind.i64.wrap (n * 10)) + (IntKind.i64.wrap (IntKind.u8.wrap (((s.data.getD (Int.toNat i40) 0).toNat : Int) - 48))))) (i40 + 1) hl0 (Qe hI0 (condT h5 (condF h6 rfl))) (by refine ⟨?_, ?_⟩ <;> omega))))))) (fun h5 _ => have hD0_7 : Qrx s = Lp.done (n, i40) := Qk hI0 (condF h5 rfl); fiI n (F34 s) (condF h3 (finD hD0_7 rfl)))) (i0.1 - 1) i0.2.1 i0.2.2 (un34_0 s i0 hi0)))))) (by kernel_rfl)
def Pe (n : Int) : (Int × Int) → Lp (Int × Int) Int := fun (out, i40) =>
 bif (decide (i40 < 16)) then (.next ((IntKind.i64.wrap (out * 2)), (i40 + 1))) else (.done (out, i40))
def F58 (n : Int) : Int :=
 (runL (Pe n) ((Int.toNat (16 - n)) + 1) (1, n)).fin (fun r => r) (fun (out, i40) => out)
abbrev Nf (n : Int) : Nat × (Int × Int) := (((Int.toNat (16 - n)) + 1), (1, n))
abbrev Qjr (m39 : Nat) (out : Int) (i40 : Int) : Prop := Int.toNat (16 - i40) < m39 ∧ (0 : Int) ≤ i40
abbrev Qsv (n : Int) : Lp (Int × Int) Int := LpX (Pe n) (Nf n)
abbrev Rg (n : Int) (i : Nat × (Int × Int)) : Prop := LpJ (Pe n) (Nf n) i (Qjr i.1 i.2.1 i.2.2)
abbrev Qrp (n : Int) (i : Nat × (Int × Int)) (m39 : Nat) (out : Int) (i40 : Int) : Prop := LpH (Pe n) (Nf n) i m39 (out, i40) (Qjr (m39 + 1) out i40)
abbrev Qvv (out : Int) (i40 : Int) (out_ : Int) (i40_ : Int) (K39 : Prop) : Prop := ((.int .i64 out : Value) = .int .i64 out_) ∧ ((.int .i64 i40 : Value) = .int .i64 i40_) ∧ K39
theorem un58_0 (n : Int) (i : Nat × (Int × Int)) (h : Rg n i) : Qrp n i (i.1 - 1) i.2.1 i.2.2 := ⟨hd1 h.1 h.2.1, hd3 h.2.1, hd2 h.2.1, h.2.2⟩
theorem bk58_0 (n : Int) (i : Nat × (Int × Int)) (m39 : Nat) (out : Int) (i40 : Int) (hl : m39 < i.1) (e : runL (Pe n) m39 (out, i40) = Qsv n) (h : Qjr m39 out i40) : ∃ j : Nat × (Int × Int), Qvv out i40 j.2.1 j.2.2 (Rg n j ∧ j.1 < i.1) := ⟨(m39, (out, i40)), rfl, rfl, ⟨e, h⟩, hl⟩
theorem en58_0 (n : Int) (h : (0 : Int) ≤ n) : Qvv 1 n 1 n (Rg n (Nf n)) := ⟨rfl, rfl, rfl, Nat.lt_succ_self _, h⟩
def S58 (n : Int) : Spec := ⟨[.r (.c (.v (vI n)))], .v (vI (F58 n)), 0 ≤ n⟩
theorem ok58 (n : Int) : (S58 n).ok Tryz.prog 58 :=
 Ql mixed (fn := Tryz.f58) (ct := .seq .no (.seq .no (.seq (.seq .no (.blk (.loop (ι := Nat × (Int × Int)) (fun i => (fun (out : Int) (i40 : Int) => (⟨[(3, some (.v (vI out))), (4, some (.v (vI i40)))], [], 0⟩ : St)) i.2.1 i.2.2) (Rg n) (fun i => i.1) (Nf n) (fun i => (fun (out : Int) (i40 : Int) => (.seq (.seq .no (.cond .no .no)) (.seq (.blk .no) (.reg [(1, .bnd)])))) i.2.1 i.2.2)))) (.seq .no .no)))) Tryz.func58 (fun (hpre0 : 0 ≤ n) => ai (en58_0 n (by omega)) (fun (i0 : Nat × (Int × Int)) (hi0 : Rg n i0) => (fun (m0 : Nat) (out : Int) (i40 : Int) (hh0 : Qrp n i0 m0 out i40) => have hI0 := hh0.1; have hl0 := hh0.2.1; have _ := hh0.2.2.1; have _ := hh0.2.2.2; ifd (i40 < 16) (fun h2 _ => ai (iok (i40 + 1) (by omega)) (bk58_0 n i0 m0 (IntKind.i64.wrap (out * 2)) (i40 + 1) hl0 (Qe hI0 (condT h2 rfl)) (by refine ⟨?_, ?_⟩ <;> omega))) (fun h2 _ => have hD0_3 : Qsv n = Lp.done (out, i40) := Qk hI0 (condF h2 rfl); fiI out (F58 n) (finD hD0_3 rfl))) (i0.1 - 1) i0.2.1 i0.2.2 (un58_0 n i0 hi0))) (by kernel_rfl)
theorem Qmr (n : Int) : 0 ≤ n → n ≤ 16 → 1 ≤ (F58 n) ∧ (F58 n) ≤ 65536 := by
 intro h1 h2; have h3 : n = 0 ∨ n = 1 ∨ n = 2 ∨ n = 3 ∨ n = 4 ∨ n = 5 ∨ n = 6 ∨ n = 7 ∨ n = 8 ∨ n = 9 ∨ n = 10 ∨ n = 11 ∨ n = 12 ∨ n = 13 ∨ n = 14 ∨ n = 15 ∨ n = 16 := by omega
 rcases h3 with rfl | rfl | rfl | rfl | rfl | rfl | rfl | rfl | rfl | rfl | rfl | rfl | rfl | rfl | rfl | rfl | rfl <;> exact of_decide_eq_true rfl
def Vg (list : List ByteArray) (s : ByteArray) : Int → Lp Int Bool := fun i40 =>
 bif (decide (i40 < (list.length : Int))) then (bif ((list.getD (Int.toNat i40) default).toList == s.toList) then (.ret true) else (.next (i40 + 1))) else (.done i40)
def F25 (list : List ByteArray) (s : ByteArray) : Bool :=
 (runL (Vg list s) ((Int.toNat ((list.length : Int) - 0)) + 1) 0).fin (fun r => r) (fun i40 => false)
abbrev Nd (list : List ByteArray) : Nat × Int := (((Int.toNat ((list.length : Int) - 0)) + 1), 0)
abbrev Qhd (list : List ByteArray) (m39 : Nat) (i40 : Int) : Prop := Int.toNat ((list.length : Int) - i40) < m39 ∧ (0 : Int) ≤ i40
abbrev Qqa (list : List ByteArray) (s : ByteArray) : Lp Int Bool := LpX (Vg list s) (Nd list)
abbrev Ro (list : List ByteArray) (s : ByteArray) (i : Nat × Int) : Prop := LpJ (Vg list s) (Nd list) i (Qhd list i.1 i.2)
abbrev Qpu (list : List ByteArray) (s : ByteArray) (i : Nat × Int) (m39 : Nat) (i40 : Int) : Prop := LpH (Vg list s) (Nd list) i m39 i40 (Qhd list (m39 + 1) i40)
abbrev Qvs (list : List ByteArray) (s : ByteArray) (i40 : Int) (i40_ : Int) (K39 : Prop) : Prop := (Rf (.string s)) ∧ ((.int .i64 i40 : Value) = .int .i64 i40_) ∧ (Im (.l 1 eStr list)) ∧ K39
theorem un25_0 (list : List ByteArray) (s : ByteArray) (i : Nat × Int) (h : Ro list s i) : Qpu list s i (i.1 - 1) i.2 := ⟨hd1 h.1 h.2.1, hd3 h.2.1, hd2 h.2.1, h.2.2⟩
theorem bk25_0 (list : List ByteArray) (s : ByteArray) (i : Nat × Int) (m39 : Nat) (i40 : Int) (hl : m39 < i.1) (e : runL (Vg list s) m39 i40 = Qqa list s) (h : Qhd list m39 i40) : ∃ j : Nat × Int, Qvs list s i40 j.2 (Ro list s j ∧ j.1 < i.1) := ⟨(m39, i40), rfl, rfl, Imp.refl _, ⟨e, h⟩, hl⟩
theorem en25_0 (list : List ByteArray) (s : ByteArray) (h : (0 : Int) ≤ 0) : Qvs list s 0 0 (Ro list s (Nd list)) := ⟨rfl, rfl, Imp.refl _, rfl, Nat.lt_succ_self _, h⟩
def S25 (list : List ByteArray) (s : ByteArray) : Spec := ⟨[.r (.c (.l 1 eStr list)), .r (.c (.v (.string s)))], .v (.bool (F25 list s)), True⟩
theorem ok25 (list : List ByteArray) (s : ByteArray) : (S25 list s).ok Tryz.prog 25 :=
 Ql mixed (fn := Tryz.f25) (ct := .seqk [(0, 0)] .no (.seq (.seqk [(0, 0)] .no (.blk (.loop (ι := Nat × Int) (fun i => (fun (i40 : Int) => (⟨[(0, some (.h 0 0)), (1, some (.v (.string s))), (5, some (.v (vI i40)))], [(0, some (.shr none (.l 1 eStr list)))], 1⟩ : St)) i.2) (Ro list s) (fun i => i.1) (Nd list) (fun i => (fun (i40 : Int) => (.seq (.seq .no (.cond .no .no)) (.seq (.blk (.seq .no (.cond (.seq .no .no) .no))) (.reg [(1, .bnd)])))) i.2)))) (.seq .no .no))) Tryz.func25 (fun (_ : True) => kn list fun _ => kn list fun _ => ai (en25_0 list s (by omega)) (fun (i0 : Nat × Int) (hi0 : Ro list s i0) => (fun (m0 : Nat) (i40 : Int) (hh0 : Qpu list s i0 m0 i40) => have hI0 := hh0.1; have hl0 := hh0.2.1; have _ := hh0.2.2.1; have _ := hh0.2.2.2; ifd (i40 < (list.length : Int)) (fun h2 _ => ai (by omega : ib i40 list) (ifb ((list.getD (Int.toNat i40) default).toList == s.toList) (fun h3 => fiB true (F25 list s) (finR (Qt hI0 (condT h2 (condT h3 rfl))) rfl)) (fun h3 => ai (iok (i40 + 1) (by omega)) (bk25_0 list s i0 m0 (i40 + 1) hl0 (Qe hI0 (condT h2 (condF h3 rfl))) (by refine ⟨?_, ?_⟩ <;> omega))))) (fun h2 _ => have hD0_4 : Qqa list s = Lp.done i40 := Qk hI0 (condF h2 rfl); fiB false (F25 list s) (finD hD0_4 rfl))) (i0.1 - 1) i0.2 (un25_0 list s i0 hi0))) (by kernel_rfl)
def F140 : List ByteArray :=
 ([(⟨#[100, 111, 111, 114]⟩ : ByteArray), (⟨#[104, 111, 115, 116]⟩ : ByteArray), (⟨#[110, 97, 116]⟩ : ByteArray), (⟨#[112, 101, 101, 114]⟩ : ByteArray), (⟨#[112, 111, 114, 116]⟩ : ByteArray), (⟨#[114, 111, 117, 116, 101]⟩ : ByteArray), (⟨#[114, 117, 108, 101]⟩ : ByteArray), (⟨#[117, 115, 101, 114]⟩ : ByteArray)] : List ByteArray)
theorem fi140 (r : List ByteArray) (hF : r = F140) : (Imp (.l 1 eStr r) (.l 1 eStr F140)) ∧ True := by cases hF; exact ⟨Imp.refl _, trivial⟩
def S140 : Spec := ⟨[], .ow (.l 1 eStr F140), True⟩
theorem ok140 : (S140).ok Tryz.prog 140 :=
 Ql mixed (fn := Tryz.f140) (ct := .seq .no (.seq (.reg [(0, .dat (.l 1 eStr ([w3_, w4_, w5_, w6_, w7_, w8_, w9_, w10_] : List ByteArray)))]) .no)) Tryz.func140 (fun (_ : True) => ai (bokr 1 eStr ([w3_, w4_, w5_, w6_, w7_, w8_, w9_, w10_] : List ByteArray) fun _ => rfl) (fi140 ([w3_, w4_, w5_, w6_, w7_, w8_, w9_, w10_] : List ByteArray) rfl)) (by kernel_rfl)
theorem Qne (s : ByteArray) (a b : Nat) : mkB ((s.data.toList.drop a).take (b - a)) = s.extract a b := by
 refine Jo ?_
 rw [Tb, ByteArray.data_extract, Array.toList_extract, List.extract_eq_take_drop]
theorem Qtj (s : ByteArray) (c : UInt8) (out : List ByteArray) (f : Int) : Kc s (c.toNat : Int) (out, f, (s.size : Int)) = .done (out, f, (s.size : Int)) := by
 simp only [Kc, decide_eq_false (show ¬ (s.size : Int) < (s.size : Int) by omega), cond_false]
theorem Qur (s : ByteArray) (c : UInt8) (out : List ByteArray) (f i : Nat) (hi : i < s.size) (b : UInt8) (hb : s.data.toList.getD i 0 = b) : Kc s (c.toNat : Int) (out, (f : Int), (i : Int)) =
  if b = c then .next (out ++ [s.extract f i], ((i + 1 : Nat) : Int), ((i + 1 : Nat) : Int)) else .next (out, (f : Int), ((i + 1 : Nat) : Int)) := by
 have hc : ((c.toNat : Int) % 256) = (c.toNat : Int) := by have := c.toNat_lt; omega
 simp only [Kc, decide_eq_true (show (i : Int) < (s.size : Int) by omega), cond_true, Int.toNat_natCast, Zl, hb, hc, Qlr]
 by_cases h : b = c
 ·rw [decide_eq_true h, if_pos h]; rfl
 ·rw [decide_eq_false h, if_neg h]; rfl
theorem Lm (s : ByteArray) (c : UInt8) : ∀ (m i f : Nat) (out : List ByteArray), i + m = s.size → f ≤ i → c ∉ (s.data.toList.drop f).take (i - f) → ∀ fuel, m < fuel →
  ((runL (Kc s (c.toNat : Int)) fuel (out, (f : Int), (i : Int))).fin Lp.ret (fun (out1, from'1, i40) => .done (out1, from'1))).fin (fun r => r) (fun (out, from') => out ++ [s.extract (Int.toNat from') (Int.toNat (s.size : Int))]) = out ++ (Qx c (s.data.toList.drop f)).map mkB
 | m, i, f, out, _, _, _, 0, hf => absurd hf (Nat.not_lt_zero _)
 | 0, i, f, out, h, hfi, hc, fuel + 1, hf => by
  have hl : s.data.toList.length = s.size := Array.length_toList
  obtain rfl : i = s.size := by omega
  rw [Kd _ (Qtj s c out f)]
  have e : (s.data.toList.drop f).take (s.size - f) = s.data.toList.drop f := List.take_of_length_le (by rw [List.length_drop]; omega)
  rw [e] at hc
  rw [Us hc, List.map_cons, List.map_nil, ← e, Qne]
  rfl
 | m + 1, i, f, out, h, hfi, hc, fuel + 1, hf => by
  have hl : s.data.toList.length = s.size := Array.length_toList
  have hb : s.data.toList.drop i = s.data.toList.getD i 0 :: s.data.toList.drop (i + 1) := by
   rw [List.drop_eq_getElem_cons (by omega), List.getD_eq_getElem?_getD, List.getElem?_eq_getElem (by omega)]; rfl
  have hw : s.data.toList.drop f = (s.data.toList.drop f).take (i - f) ++ s.data.toList.drop i := by
   have := (List.take_append_drop (i - f) (s.data.toList.drop f)).symm
   rw [List.drop_drop, show f + (i - f) = i by omega] at this
   exact this
  have h1 := Qur s c out f i (by omega) _ rfl
  generalize hbb : s.data.toList.getD i 0 = b at h1 hb
  by_cases hbc : b = c
  ·rw [if_pos hbc] at h1
   rw [Ux _ h1, Lm s c m (i + 1) (i + 1) _ (by omega) (Nat.le_refl _) (by rw [Nat.sub_self, List.take_zero]; exact List.not_mem_nil) fuel (by omega)]
   rw [hw, hb, hbc, Uz _ hc, List.map_cons, Qne, List.append_assoc]
   rfl
  ·rw [if_neg hbc] at h1
   have hc' : c ∉ (s.data.toList.drop f).take (i + 1 - f) := by
    have e : (s.data.toList.drop f).take (i + 1 - f) = (s.data.toList.drop f).take (i - f) ++ [b] := by
     have hg : s.data.toList[i]? = some b := by
      rw [List.getD_eq_getElem?_getD, List.getElem?_eq_getElem (by omega)] at hbb
      rw [List.getElem?_eq_getElem (by omega)]
      exact congrArg some hbb
     rw [show i + 1 - f = (i - f) + 1 by omega, List.take_add_one, List.getElem?_drop, show f + (i - f) = i by omega, hg]
     rfl
    rw [e]
    intro hm
    rcases List.mem_append.1 hm with h2 | h2
    ·exact hc h2
    ·exact hbc (List.mem_singleton.1 h2).symm
   rw [Ux _ h1]
   exact Lm s c m (i + 1) f out (by omega) (by omega) hc' fuel (by omega)
theorem Js (s : ByteArray) (c : UInt8) : F56 s (c.toNat : Int) = (Qx c s.data.toList).map mkB := by
 have := Lm s c s.size 0 0 [] (by omega) (Nat.le_refl _) (by rw [Nat.sub_self, List.take_zero]; exact List.not_mem_nil) (Int.toNat ((s.size : Int) - 0) + 1) (by omega)
 rw [List.drop_zero, List.nil_append] at this
 exact this
theorem Ld (s : ByteArray) (c : UInt8) : Qw s ⟨#[c]⟩ = (Qx c s.data.toList).map mkB := by
 rw [← Ty, List.map_map]
 exact ((List.map_congr_left fun x _ => Qae x).trans (List.map_id _)).symm
theorem Qak (s : ByteArray) (c : UInt8) : F56 s (c.toNat : Int) = Qw s ⟨#[c]⟩ := (Js s c).trans (Ld s c).symm
theorem Qqn (s : ByteArray) (a : Int) : ∃ c : UInt8, F56 s a = (Qx c s.data.toList).map mkB := by
 refine ⟨UInt8.ofNat (a % 256).toNat, ?_⟩
 rw [← Js]
 have h : ((UInt8.ofNat (a % 256).toNat).toNat : Int) % 256 = a % 256 := by
  rw [UInt8.toNat_ofNat']
  omega
 have e : Kc s a = Kc s ((UInt8.ofNat (a % 256).toNat).toNat : Int) := by
  funext ⟨o, f, i⟩
  simp only [Kc, h]
 unfold F56 Pj
 rw [e]
theorem Hv (c : UInt8) : ∀ (l : List UInt8), ∀ w ∈ Qx c l, w.length ≤ l.length
 | [], w, h => by
  rw [Qx, List.mem_singleton] at h; rw [h]; exact Nat.le_refl _
 | b :: l, w, h => by
  have ih := Hv c l
  rw [Qx] at h
  by_cases hb : b = c
  ·rw [if_pos hb] at h
   rcases List.mem_cons.1 h with rfl | h
   ·exact Nat.zero_le _
   ·exact Nat.le_succ_of_le (ih w h)
  ·rw [if_neg hb] at h
   cases hs : Qx c l with
   | nil =>
    rw [hs] at h
    rw [List.mem_singleton] at h; rw [h]; exact Nat.succ_le_succ (Nat.zero_le _)
   | cons p ps =>
    rw [hs] at h ih
    rcases List.mem_cons.1 h with rfl | h
    ·exact Nat.succ_le_succ (ih p List.mem_cons_self)
    ·exact Nat.le_succ_of_le (ih w (List.mem_cons_of_mem _ h))
theorem Pf (ws : List (List UInt8)) (n : Nat) (h : ∀ w ∈ ws, w.length ≤ n) (k : Nat) : (((ws.map mkB).getD k default : ByteArray)).size ≤ n := by
 by_cases hk : k < ws.length
 ·rw [List.getD_eq_getElem?_getD, List.getElem?_eq_getElem (by simpa using hk), List.getElem_map]
  exact h _ (List.getElem_mem hk)
 ·rw [Ws _ (by simpa using hk)]
  exact Nat.zero_le _
theorem Ku (s : ByteArray) (a : Int) (h : s.size ≤ 1048576) (k : Nat) : (((F56 s a).getD k default : ByteArray)).size ≤ 1048576 := by
 obtain ⟨c, e⟩ := Qqn s a
 rw [e]
 refine Pf _ _ (fun w hw => ?_) k
 have := Hv c _ w hw
 have hl : s.data.toList.length = s.size := Array.length_toList
 omega
theorem kc34 (s : ByteArray) {K_ : Prop} (p0_ : s.size ≤ 1048576) (k_ : K_) : (s.size ≤ 1048576) ∧ (Imp (.v (.string s)) (.v (.string s))) ∧ K_ := ⟨p0_, Imp.refl _, k_⟩
abbrev kh34 (s : ByteArray) : Hint true Tryz.prog := .call 34 (S34 s) (ok34 s) none
def F57 (s : ByteArray) (low : Int) (high : Int) : Bool :=
 (decide (low ≤ (F34 s) ∧ (F34 s) ≤ high))
def S57 (R : Bool) (s : ByteArray) (low : Int) (high : Int) : Spec := ⟨[.r (.c (.v (.string s))), .r (.c (.v (vI low))), .r (.c (.v (vI high)))], .v (.bool R), s.size ≤ 1048576⟩
theorem ok57 (s : ByteArray) (low : Int) (high : Int) : (S57 (F57 s low high) s low high).ok Tryz.prog 57 :=
 Ql mixed (fn := Tryz.f57) (ct := .seq .no (.seq (.reg [(1, kh34 s), (4, Qax (F34 s) low high)]) .no)) Tryz.func57 (fun (hpre0 : s.size ≤ 1048576) => kc34 s (by omega) (Qfs (F34 s) low high (fiB (decide (low ≤ (F34 s) ∧ (F34 s) ≤ high)) (F57 s low high) rfl))) (by kernel_rfl)
theorem as57 (s : ByteArray) (low : Int) (high : Int) : F57 s low high = (decide (low ≤ F34 s ∧ F34 s ≤ high)) := by
 rfl
theorem oa57 (s : ByteArray) (low : Int) (high : Int) : (S57 (decide (low ≤ F34 s ∧ F34 s ≤ high)) s low high).ok Tryz.prog 57 := by
 intro hp; have h := ok57 s low high hp; rw [as57 s low high] at h; exact h
theorem kc56 (s : ByteArray) (at' : Int) {K_ : Prop} (p0_ : s.size ≤ 1048576) (q0_ : s.size ≤ 1048576) (k_ : (∀ k : Nat, ((F56 s at').getD k default).size ≤ 1048576) → K_) : (s.size ≤ 1048576) ∧ (Imp (.v (.string s)) (.v (.string s))) ∧ (Imp (.v (.int .u8 at')) (.v (.int .u8 at'))) ∧ K_ := ⟨p0_, Imp.refl _, Imp.refl _, k_ (Ku s at' q0_)⟩
abbrev kh56 (s : ByteArray) (at' : Int) : Hint true Tryz.prog := .call 56 (S56 s at') (ok56 s at') none
theorem Wz {K_ : Prop} (c_ b_ : Bool) (s : ByteArray) (low : Int) (high : Int) (p_ : c_ = b_ → s.size ≤ 1048576) (k_ : K_) : (c_ = b_ → s.size ≤ 1048576) ∧ (c_ = b_ → Imp (.v (.string s)) (.v (.string s))) ∧ (c_ = b_ → Imp (.v (vI low)) (.v (vI low))) ∧ (c_ = b_ → Imp (.v (vI high)) (.v (vI high))) ∧ K_ := ⟨p_, fun _ => Imp.refl _, fun _ => Imp.refl _, fun _ => Imp.refl _, k_⟩
abbrev Wx (s : ByteArray) (low : Int) (high : Int) : Hint true Tryz.prog := .call 57 (S57 (decide (low ≤ F34 s ∧ F34 s ≤ high)) s low high) (oa57 s low high) none
def F31 (s : ByteArray) : Int :=
 bif (bif (bif (((F56 s 46).length : Int) != 2) then true else (!(decide (0 ≤ F34 ((F56 s 46).getD (Int.toNat 0) default) ∧ F34 ((F56 s 46).getD (Int.toNat 0) default) ≤ 255)))) then true else (!(decide (0 ≤ F34 ((F56 s 46).getD (Int.toNat 1) default) ∧ F34 ((F56 s 46).getD (Int.toNat 1) default) ≤ 255)))) then (-1) else (IntKind.i64.wrap ((IntKind.i64.wrap (256 * (F34 ((F56 s 46).getD (Int.toNat 0) default)))) + (F34 ((F56 s 46).getD (Int.toNat 1) default))))
def S31 (s : ByteArray) : Spec := ⟨[.r (.c (.v (.string s)))], .v (vI (F31 s)), s.size ≤ 1048576⟩
theorem ok31 (s : ByteArray) : (S31 s).ok Tryz.prog 31 :=
 Ql mixed (fn := Tryz.f31) (ct := .seq .no (.seq (.reg [(1, kh56 s 46)]) (.seq (.seq (.reg [(7, Wx ((F56 s 46).getD (Int.toNat 0) default) 0 255), (14, Wx ((F56 s 46).getD (Int.toNat 1) default) 0 255)]) (.cond (.seq .no .no) .no)) (.seq (.reg [(3, kh34 ((F56 s 46).getD (Int.toNat 0) default)), (8, kh34 ((F56 s 46).getD (Int.toNat 1) default))]) .no)))) Tryz.func31 (fun (hpre0 : s.size ≤ 1048576) => kc56 s 46 (by omega) (by omega) (fun gv1 => ai (fun k2 : (((F56 s 46).length : Int) != 2) = false => have _ := bneF k2; (by omega : ib 0 (F56 s 46))) (Wz (((F56 s 46).length : Int) != 2) false ((F56 s 46).getD (Int.toNat 0) default) 0 255 (fun k3 => have _ := bneF k3; (by first | exact Ku _ _ (by omega) _ | omega)) (ai (fun k4 : (bif (((F56 s 46).length : Int) != 2) then true else (!(decide (0 ≤ F34 ((F56 s 46).getD (Int.toNat 0) default) ∧ F34 ((F56 s 46).getD (Int.toNat 0) default) ≤ 255)))) = false => have _ := bneF (orF1 k4); have _ := of_decide_eq_true (Yl (orF2 k4)); (by omega : ib 1 (F56 s 46))) (Wz (bif (((F56 s 46).length : Int) != 2) then true else (!(decide (0 ≤ F34 ((F56 s 46).getD (Int.toNat 0) default) ∧ F34 ((F56 s 46).getD (Int.toNat 0) default) ≤ 255)))) false ((F56 s 46).getD (Int.toNat 1) default) 0 255 (fun k5 => have _ := bneF (orF1 k5); have _ := of_decide_eq_true (Yl (orF2 k5)); (by first | exact Ku _ _ (by omega) _ | omega)) (ifb (bif (bif (((F56 s 46).length : Int) != 2) then true else (!(decide (0 ≤ F34 ((F56 s 46).getD (Int.toNat 0) default) ∧ F34 ((F56 s 46).getD (Int.toNat 0) default) ≤ 255)))) then true else (!(decide (0 ≤ F34 ((F56 s 46).getD (Int.toNat 1) default) ∧ F34 ((F56 s 46).getD (Int.toNat 1) default) ≤ 255)))) (fun h6 => fiI (-1) (F31 s) (condT h6 rfl)) (fun h6 => have _ := bneF (orF1 (orF1 h6)); have _ := of_decide_eq_true (Yl (orF2 (orF1 h6))); have _ := of_decide_eq_true (Yl (orF2 h6)); ai (by omega : ib 0 (F56 s 46)) (kc34 ((F56 s 46).getD (Int.toNat 0) default) (by first | exact Ku _ _ (by omega) _ | omega) (ai (by omega : ib 1 (F56 s 46)) (kc34 ((F56 s 46).getD (Int.toNat 1) default) (by first | exact Ku _ _ (by omega) _ | omega) (fiI (IntKind.i64.wrap ((IntKind.i64.wrap (256 * (F34 ((F56 s 46).getD (Int.toNat 0) default)))) + (F34 ((F56 s 46).getD (Int.toNat 1) default)))) (F31 s) (condF h6 rfl)))))))))))) (by kernel_rfl)
theorem kc140 {K_ : Prop} (k_ : K_) : (True) ∧ K_ := ⟨trivial, k_⟩
abbrev kh140 : Hint true Tryz.prog := .call 140 (S140) (ok140) none
theorem kc25 (list : List ByteArray) (s : ByteArray) {K_ : Prop} (k_ : K_) : (True) ∧ (Imp (.l 1 eStr list) (.l 1 eStr list)) ∧ (Imp (.v (.string s)) (.v (.string s))) ∧ K_ := ⟨trivial, Imp.refl _, Imp.refl _, k_⟩
abbrev kh25 (list : List ByteArray) (s : ByteArray) : Hint true Tryz.prog := .call 25 (S25 list s) (ok25 list s) none
def Wo (s : ByteArray) : Int → Lp Int Bool := fun i40 =>
 bif (decide (i40 < ((F56 s 44).length : Int))) then (bif (bif (!(F25 F140 ((F56 s 44).getD (Int.toNat i40) default))) then true else (bif decide (i40 > 0) then (!(Op.bytesLess ((F56 s 44).getD (Int.toNat (i40 - 1)) default).toList ((F56 s 44).getD (Int.toNat i40) default).toList)) else false)) then (.ret false) else (.next (i40 + 1))) else (.done i40)
def F127 (s : ByteArray) : Bool :=
 bif (bif (s.toList == (⟨#[97, 108, 108]⟩ : ByteArray).toList) then true else (s.toList == (⟨#[110, 111, 110, 101]⟩ : ByteArray).toList)) then true else ((runL (Wo s) ((Int.toNat (((F56 s 44).length : Int) - 0)) + 1) 0).fin (fun r => r) (fun i40 => true))
abbrev Gi (s : ByteArray) : Nat × Int := (((Int.toNat (((F56 s 44).length : Int) - 0)) + 1), 0)
abbrev Qdg (s : ByteArray) (m39 : Nat) (i40 : Int) : Prop := Int.toNat (((F56 s 44).length : Int) - i40) < m39 ∧ (0 : Int) ≤ i40
abbrev Qle (s : ByteArray) : Lp Int Bool := LpX (Wo s) (Gi s)
abbrev Gl (s : ByteArray) (i : Nat × Int) : Prop := LpJ (Wo s) (Gi s) i (Qdg s i.1 i.2)
abbrev Qlu (s : ByteArray) (i : Nat × Int) (m39 : Nat) (i40 : Int) : Prop := LpH (Wo s) (Gi s) i m39 i40 (Qdg s (m39 + 1) i40)
abbrev Qlf (s : ByteArray) (i40 : Int) (i40_ : Int) (K39 : Prop) : Prop := ((.int .i64 i40 : Value) = .int .i64 i40_) ∧ (Im (.l 1 eStr (F56 s 44))) ∧ K39
theorem Qxs (s : ByteArray) (i : Nat × Int) (h : Gl s i) : Qlu s i (i.1 - 1) i.2 := ⟨hd1 h.1 h.2.1, hd3 h.2.1, hd2 h.2.1, h.2.2⟩
theorem Qyo (s : ByteArray) (i : Nat × Int) (m39 : Nat) (i40 : Int) (hl : m39 < i.1) (e : runL (Wo s) m39 i40 = Qle s) (h : Qdg s m39 i40) : ∃ j : Nat × Int, Qlf s i40 j.2 (Gl s j ∧ j.1 < i.1) := ⟨(m39, i40), rfl, Imp.refl _, ⟨e, h⟩, hl⟩
theorem Qxr (s : ByteArray) (h : (0 : Int) ≤ 0) : Qlf s 0 0 (Gl s (Gi s)) := ⟨rfl, Imp.refl _, rfl, Nat.lt_succ_self _, h⟩
def S127 (s : ByteArray) : Spec := ⟨[.r (.c (.v (.string s)))], .v (.bool (F127 s)), s.size ≤ 1048576⟩
theorem ok127 (s : ByteArray) : (S127 s).ok Tryz.prog 127 :=
 Ql mixed (fn := Tryz.f127) (ct := .seq .no (.seq (.seq .no (.cond (.seq .no .no) .no)) (.seq (.reg [(1, kh56 s 44)]) (.seq (.seqk [(3, 0)] .no (.blk (.loop (ι := Nat × Int) (fun i => (fun (i40 : Int) => (⟨[(3, some (.h 0 0)), (4, some (.v (vI i40)))], [(0, some (.own 0 (.l 1 eStr (F56 s 44))))], 1⟩ : St)) i.2) (Gl s) (fun i => i.1) (Gi s) (fun i => (fun (i40 : Int) => (.seq (.seq .no (.cond .no .no)) (.seq (.blk (.seq (.reg [(0, kh140), (5, kh25 F140 ((F56 s 44).getD (Int.toNat i40) default)), (13, .bnd)]) (.cond (.seq .no .no) .no))) (.reg [(1, .bnd)])))) i.2)))) (.seq .no .no))))) Tryz.func127 (fun (hpre0 : s.size ≤ 1048576) => ifb (bif (s.toList == w11_.toList) then true else (s.toList == w12_.toList)) (fun h1 => fiB true (F127 s) (condT h1 rfl)) (fun h1 => have _ : (s.toList == w11_.toList) = false := (orF1 h1); have _ : (s.toList == w12_.toList) = false := (orF2 h1); kc56 s 44 (by omega) (by omega) (fun gv2 => kn (F56 s 44) fun _ => ai (Qxr s (by omega)) (fun (i0 : Nat × Int) (hi0 : Gl s i0) => (fun (m0 : Nat) (i40 : Int) (hh0 : Qlu s i0 m0 i40) => have hI0 := hh0.1; have hl0 := hh0.2.1; have _ := hh0.2.2.1; have _ := hh0.2.2.2; ifd (i40 < ((F56 s 44).length : Int)) (fun h4 _ => kc140 (ai (by omega : ib i40 (F56 s 44)) (kc25 F140 ((F56 s 44).getD (Int.toNat i40) default) (ai (fun k6 : (decide (i40 > 0)) = true => have _ := of_decide_eq_true k6; (fun k5 : (!(F25 F140 ((F56 s 44).getD (Int.toNat i40) default))) = false => iok (i40 - 1) (by omega))) (ai (fun k8 : (decide (i40 > 0)) = true => have _ := of_decide_eq_true k8; (fun k7 : (!(F25 F140 ((F56 s 44).getD (Int.toNat i40) default))) = false => (by omega : ib (i40 - 1) (F56 s 44)))) (ai (fun k10 : (decide (i40 > 0)) = true => have _ := of_decide_eq_true k10; (fun k9 : (!(F25 F140 ((F56 s 44).getD (Int.toNat i40) default))) = false => (by omega : ib i40 (F56 s 44)))) (ifb (bif (!(F25 F140 ((F56 s 44).getD (Int.toNat i40) default))) then true else (bif decide (i40 > 0) then (!(Op.bytesLess ((F56 s 44).getD (Int.toNat (i40 - 1)) default).toList ((F56 s 44).getD (Int.toNat i40) default).toList)) else false)) (fun h11 => fiB false (F127 s) (condF h1 (finR (Qt hI0 (condT h4 (condT h11 rfl))) rfl))) (fun h11 => ai (iok (i40 + 1) (by omega)) (Qyo s i0 m0 (i40 + 1) hl0 (Qe hI0 (condT h4 (condF h11 rfl))) (by refine ⟨?_, ?_⟩ <;> omega)))))))))) (fun h4 _ => have hD0_12 : Qle s = Lp.done i40 := Qk hI0 (condF h4 rfl); fiB true (F127 s) (condF h1 (finD hD0_12 rfl)))) (i0.1 - 1) i0.2 (Qxs s i0 hi0))))) (by kernel_rfl)
theorem kc31 (s : ByteArray) {K_ : Prop} (p0_ : s.size ≤ 1048576) (k_ : K_) : (s.size ≤ 1048576) ∧ (Imp (.v (.string s)) (.v (.string s))) ∧ K_ := ⟨p0_, Imp.refl _, k_⟩
theorem kg31 {K_ : Prop} (c_ b_ : Bool) (s : ByteArray) (p_ : c_ = b_ → s.size ≤ 1048576) (k_ : K_) : (c_ = b_ → s.size ≤ 1048576) ∧ (c_ = b_ → Imp (.v (.string s)) (.v (.string s))) ∧ K_ := ⟨p_, fun _ => Imp.refl _, k_⟩
abbrev kh31 (s : ByteArray) : Hint true Tryz.prog := .call 31 (S31 s) (ok31 s) none
theorem kc58 (n : Int) {K_ : Prop} (p0_ : 0 ≤ n) (q0_ : 0 ≤ n) (q1_ : n ≤ 16) (k_ : (1 ≤ (F58 n) ∧ (F58 n) ≤ 65536) → (0 ≤ n → n ≤ 16 → 1 ≤ (F58 n) ∧ (F58 n) ≤ 65536) → K_) : (0 ≤ n) ∧ (Imp (.v (vI n)) (.v (vI n))) ∧ K_ := ⟨p0_, Imp.refl _, k_ (Qmr n q0_ q1_) (Qmr n)⟩
abbrev kh58 (n : Int) : Hint true Tryz.prog := .call 58 (S58 n) (ok58 n) none
def F29 (s : ByteArray) : Int × Int :=
 bif (bif (bif (((F56 s 47).length : Int) != 2) then true else decide ((F31 ((F56 s 47).getD (Int.toNat 0) default)) < 0)) then true else (!(decide (0 ≤ F34 ((F56 s 47).getD (Int.toNat 1) default) ∧ F34 ((F56 s 47).getD (Int.toNat 1) default) ≤ 16)))) then ((-1), 0) else (bif (((F31 ((F56 s 47).getD (Int.toNat 0) default)).tmod (F58 (F34 ((F56 s 47).getD (Int.toNat 1) default)))) != 0) then ((-1), 0) else ((F31 ((F56 s 47).getD (Int.toNat 0) default)), (F58 (F34 ((F56 s 47).getD (Int.toNat 1) default)))))
theorem fi29 (s : ByteArray) (r : Int × Int) (hF : r = (F29 s)) : ((.int .i64 r.1 : Value) = .int .i64 ((F29 s).1)) ∧ ((.int .i64 r.2 : Value) = .int .i64 ((F29 s).2)) ∧ True := by cases hF; exact ⟨rfl, rfl, trivial⟩
def S29 (s : ByteArray) : Spec := ⟨[.r (.c (.v (.string s)))], .tu [.v (vI ((F29 s).1)), .v (vI ((F29 s).2))], s.size ≤ 1048576⟩
theorem ok29 (s : ByteArray) : (S29 s).ok Tryz.prog 29 :=
 Ql mixed (fn := Tryz.f29) (ct := .seq .no (.seq (.reg [(1, kh56 s 47)]) (.seq (.seq (.reg [(7, kh31 ((F56 s 47).getD (Int.toNat 0) default)), (14, Wx ((F56 s 47).getD (Int.toNat 1) default) 0 16)]) (.cond (.seq .no .no) .no)) (.seq (.reg [(3, kh31 ((F56 s 47).getD (Int.toNat 0) default))]) (.seq (.reg [(3, kh34 ((F56 s 47).getD (Int.toNat 1) default)), (4, kh58 (F34 ((F56 s 47).getD (Int.toNat 1) default)))]) (.seq (.seq .no (.cond (.seq .no .no) .no)) (.seq .no .no))))))) Tryz.func29 (fun (hpre0 : s.size ≤ 1048576) => kc56 s 47 (by omega) (by omega) (fun gv1 => ai (fun k2 : (((F56 s 47).length : Int) != 2) = false => have _ := bneF k2; (by omega : ib 0 (F56 s 47))) (kg31 (((F56 s 47).length : Int) != 2) false ((F56 s 47).getD (Int.toNat 0) default) (fun k3 => have _ := bneF k3; (by first | exact Ku _ _ (by omega) _ | omega)) (ai (fun k4 : (bif (((F56 s 47).length : Int) != 2) then true else decide ((F31 ((F56 s 47).getD (Int.toNat 0) default)) < 0)) = false => have _ := bneF (orF1 k4); have _ := of_decide_eq_false (orF2 k4); (by omega : ib 1 (F56 s 47))) (Wz (bif (((F56 s 47).length : Int) != 2) then true else decide ((F31 ((F56 s 47).getD (Int.toNat 0) default)) < 0)) false ((F56 s 47).getD (Int.toNat 1) default) 0 16 (fun k5 => have _ := bneF (orF1 k5); have _ := of_decide_eq_false (orF2 k5); (by first | exact Ku _ _ (by omega) _ | omega)) (ifb (bif (bif (((F56 s 47).length : Int) != 2) then true else decide ((F31 ((F56 s 47).getD (Int.toNat 0) default)) < 0)) then true else (!(decide (0 ≤ F34 ((F56 s 47).getD (Int.toNat 1) default) ∧ F34 ((F56 s 47).getD (Int.toNat 1) default) ≤ 16)))) (fun h6 => fi29 s ((-1), 0) (condT h6 rfl)) (fun h6 => have _ := bneF (orF1 (orF1 h6)); have _ := of_decide_eq_false (orF2 (orF1 h6)); have _ := of_decide_eq_true (Yl (orF2 h6)); ai (by omega : ib 0 (F56 s 47)) (kc31 ((F56 s 47).getD (Int.toNat 0) default) (by first | exact Ku _ _ (by omega) _ | omega) (ai (by omega : ib 1 (F56 s 47)) (kc34 ((F56 s 47).getD (Int.toNat 1) default) (by first | exact Ku _ _ (by omega) _ | omega) (kc58 (F34 ((F56 s 47).getD (Int.toNat 1) default)) (by omega) (by omega) (by omega) (fun gv7 gv8 => ai (by omega : ¬ (F58 (F34 ((F56 s 47).getD (Int.toNat 1) default))) = 0) (ifn ((F31 ((F56 s 47).getD (Int.toNat 0) default)).tmod (F58 (F34 ((F56 s 47).getD (Int.toNat 1) default)))) 0 (fun h9 _ => fi29 s ((-1), 0) (condF h6 (condT h9 rfl))) (fun h9 _ => fi29 s ((F31 ((F56 s 47).getD (Int.toNat 0) default)), (F58 (F34 ((F56 s 47).getD (Int.toNat 1) default)))) (condF h6 (condF h9 rfl)))))))))))))))) (by kernel_rfl)
theorem kc29 (s : ByteArray) {K_ : Prop} (p0_ : s.size ≤ 1048576) (k_ : K_) : (s.size ≤ 1048576) ∧ (Imp (.v (.string s)) (.v (.string s))) ∧ K_ := ⟨p0_, Imp.refl _, k_⟩
abbrev kh29 (s : ByteArray) : Hint true Tryz.prog := .call 29 (S29 s) (ok29 s) none
def F128 (s : ByteArray) : Bool :=
 decide ((F29 s).1 ≥ 0)
def S128 (s : ByteArray) : Spec := ⟨[.r (.c (.v (.string s)))], .v (.bool (F128 s)), s.size ≤ 1048576⟩
theorem ok128 (s : ByteArray) : (S128 s).ok Tryz.prog 128 :=
 Ql mixed (fn := Tryz.f128) (ct := .seq .no (.seq (.reg [(1, kh29 s)]) (.seq .no .no))) Tryz.func128 (fun (hpre0 : s.size ≤ 1048576) => kc29 s (by omega) (fiB (decide ((F29 s).1 ≥ 0)) (F128 s) rfl)) (by kernel_rfl)
theorem Qwd {K_ : Prop} (c_ b_ : Bool) (s : ByteArray) (p_ : c_ = b_ → s.size ≤ 1048576) (k_ : K_) : (c_ = b_ → s.size ≤ 1048576) ∧ (c_ = b_ → Imp (.v (.string s)) (.v (.string s))) ∧ K_ := ⟨p_, fun _ => Imp.refl _, k_⟩
abbrev Qnc (s : ByteArray) : Hint true Tryz.prog := .call 126 (S126 s) (ok126 s) none
theorem kg127 {K_ : Prop} (c_ b_ : Bool) (s : ByteArray) (p_ : c_ = b_ → s.size ≤ 1048576) (k_ : K_) : (c_ = b_ → s.size ≤ 1048576) ∧ (c_ = b_ → Imp (.v (.string s)) (.v (.string s))) ∧ K_ := ⟨p_, fun _ => Imp.refl _, k_⟩
abbrev kh127 (s : ByteArray) : Hint true Tryz.prog := .call 127 (S127 s) (ok127 s) none
theorem Qgw {K_ : Prop} (c_ b_ : Bool) (s : ByteArray) (p_ : c_ = b_ → s.size ≤ 1048576) (k_ : K_) : (c_ = b_ → s.size ≤ 1048576) ∧ (c_ = b_ → Imp (.v (.string s)) (.v (.string s))) ∧ K_ := ⟨p_, fun _ => Imp.refl _, k_⟩
abbrev Qgv (s : ByteArray) : Hint true Tryz.prog := .call 128 (S128 s) (ok128 s) none
abbrev w16_ : ByteArray := ⟨#[105, 110]⟩
abbrev w17_ : ByteArray := ⟨#[112, 101, 114, 109, 105, 116]⟩
abbrev w18_ : ByteArray := ⟨#[100, 101, 110, 121]⟩
def F104 (w1 : List ByteArray) : Bool :=
 bif ((w1.length : Int) == 0) then false else (bif ((w1.getD (Int.toNat 0) default).toList == (⟨#[104, 111, 115, 116]⟩ : ByteArray).toList) then (bif ((w1.length : Int) == 2) then (F126 (w1.getD (Int.toNat 1) default)) else false) else (bif ((w1.getD (Int.toNat 0) default).toList == (⟨#[117, 115, 101, 114]⟩ : ByteArray).toList) then (bif (bif ((w1.length : Int) == 3) then (F126 (w1.getD (Int.toNat 1) default)) else false) then (F127 (w1.getD (Int.toNat 2) default)) else false) else (bif ((w1.getD (Int.toNat 0) default).toList == (⟨#[112, 111, 114, 116]⟩ : ByteArray).toList) then (bif (bif (bif ((w1.length : Int) == 3) then true else (bif (bif ((w1.length : Int) == 5) then ((w1.getD (Int.toNat 3) default).toList == (⟨#[105, 110]⟩ : ByteArray).toList) else false) then (F126 (w1.getD (Int.toNat 4) default)) else false)) then (decide (0 ≤ F34 (w1.getD (Int.toNat 1) default) ∧ F34 (w1.getD (Int.toNat 1) default) ≤ 7)) else false) then (F128 (w1.getD (Int.toNat 2) default)) else false) else (bif ((w1.getD (Int.toNat 0) default).toList == (⟨#[114, 117, 108, 101]⟩ : ByteArray).toList) then (bif (bif (bif (bif (bif (bif ((w1.length : Int) == 7) then (F126 (w1.getD (Int.toNat 1) default)) else false) then (decide (0 ≤ F34 (w1.getD (Int.toNat 2) default) ∧ F34 (w1.getD (Int.toNat 2) default) ≤ 99)) else false) then (bif ((w1.getD (Int.toNat 3) default).toList == (⟨#[112, 101, 114, 109, 105, 116]⟩ : ByteArray).toList) then true else ((w1.getD (Int.toNat 3) default).toList == (⟨#[100, 101, 110, 121]⟩ : ByteArray).toList)) else false) then (F128 (w1.getD (Int.toNat 4) default)) else false) then (F128 (w1.getD (Int.toNat 5) default)) else false) then (decide (0 ≤ F34 (w1.getD (Int.toNat 6) default) ∧ F34 (w1.getD (Int.toNat 6) default) ≤ 7)) else false) else (bif ((w1.getD (Int.toNat 0) default).toList == (⟨#[114, 111, 117, 116, 101]⟩ : ByteArray).toList) then (bif (bif ((w1.length : Int) == 3) then (F128 (w1.getD (Int.toNat 1) default)) else false) then decide ((F31 (w1.getD (Int.toNat 2) default)) ≥ 0) else false) else (bif ((w1.getD (Int.toNat 0) default).toList == (⟨#[112, 101, 101, 114]⟩ : ByteArray).toList) then (bif (bif (bif ((w1.length : Int) == 4) then decide ((F31 (w1.getD (Int.toNat 1) default)) ≥ 0) else false) then (decide (1 ≤ F34 (w1.getD (Int.toNat 2) default) ∧ F34 (w1.getD (Int.toNat 2) default) ≤ 9)) else false) then (decide (1 ≤ F34 (w1.getD (Int.toNat 3) default) ∧ F34 (w1.getD (Int.toNat 3) default) ≤ 999999)) else false) else (bif ((w1.getD (Int.toNat 0) default).toList == (⟨#[110, 97, 116]⟩ : ByteArray).toList) then (bif (bif (bif (bif ((w1.length : Int) == 5) then (F128 (w1.getD (Int.toNat 1) default)) else false) then decide ((F31 (w1.getD (Int.toNat 2) default)) ≥ 0) else false) then (decide (1 ≤ F34 (w1.getD (Int.toNat 3) default) ∧ F34 (w1.getD (Int.toNat 3) default) ≤ 65535)) else false) then (decide (1 ≤ F34 (w1.getD (Int.toNat 4) default) ∧ F34 (w1.getD (Int.toNat 4) default) ≤ 65535)) else false) else (bif ((w1.getD (Int.toNat 0) default).toList == (⟨#[100, 111, 111, 114]⟩ : ByteArray).toList) then (bif (bif (bif (bif ((w1.length : Int) == 5) then (decide (1 ≤ F34 (w1.getD (Int.toNat 1) default) ∧ F34 (w1.getD (Int.toNat 1) default) ≤ 7)) else false) then (decide (1 ≤ F34 (w1.getD (Int.toNat 2) default) ∧ F34 (w1.getD (Int.toNat 2) default) ≤ 65535)) else false) then decide ((F31 (w1.getD (Int.toNat 3) default)) ≥ 0) else false) then (decide (1 ≤ F34 (w1.getD (Int.toNat 4) default) ∧ F34 (w1.getD (Int.toNat 4) default) ≤ 65535)) else false) else false))))))))
def S104 (w1 : List ByteArray) : Spec := ⟨[.r (.c (.l 1 eStr w1))], .v (.bool (F104 w1)), (∀ k : Nat, (w1.getD k default).size ≤ 1048576)⟩
theorem ok104 (w1 : List ByteArray) : (S104 w1).ok Tryz.prog 104 :=
 Ql mixed (fn := Tryz.f104) (ct := .seqk [(0, 0)] .no (.seq .no (.seq (.seq .no (.cond (.seq .no .no) .no)) (.seq (.seq .no (.blk (.seq .no (.cond (.seq (.reg [(6, Qnc (w1.getD (Int.toNat 1) default))]) .no) (.seq .no (.cond (.seq (.reg [(6, Qnc (w1.getD (Int.toNat 1) default)), (12, kh127 (w1.getD (Int.toNat 2) default))]) .no) (.seq .no (.cond (.seq (.reg [(15, Qnc (w1.getD (Int.toNat 4) default)), (22, Wx (w1.getD (Int.toNat 1) default) 0 7), (28, Qgv (w1.getD (Int.toNat 2) default))]) .no) (.seq .no (.cond (.seq (.reg [(6, Qnc (w1.getD (Int.toNat 1) default)), (12, Wx (w1.getD (Int.toNat 2) default) 0 99), (30, Qgv (w1.getD (Int.toNat 4) default)), (36, Qgv (w1.getD (Int.toNat 5) default)), (42, Wx (w1.getD (Int.toNat 6) default) 0 7)]) .no) (.seq .no (.cond (.seq (.reg [(6, Qgv (w1.getD (Int.toNat 1) default)), (12, kh31 (w1.getD (Int.toNat 2) default))]) .no) (.seq .no (.cond (.seq (.reg [(6, kh31 (w1.getD (Int.toNat 1) default)), (13, Wx (w1.getD (Int.toNat 2) default) 1 9), (19, Wx (w1.getD (Int.toNat 3) default) 1 999999)]) .no) (.seq .no (.cond (.seq (.reg [(6, Qgv (w1.getD (Int.toNat 1) default)), (12, kh31 (w1.getD (Int.toNat 2) default)), (19, Wx (w1.getD (Int.toNat 3) default) 1 65535), (25, Wx (w1.getD (Int.toNat 4) default) 1 65535)]) .no) (.seq .no (.cond (.seq (.reg [(6, Wx (w1.getD (Int.toNat 1) default) 1 7), (12, Wx (w1.getD (Int.toNat 2) default) 1 65535), (18, kh31 (w1.getD (Int.toNat 3) default)), (25, Wx (w1.getD (Int.toNat 4) default) 1 65535)]) .no) .no)))))))))))))))))) (.seq .no .no))))) Tryz.func104 (fun (hpre0 : ∀ k : Nat, (w1.getD k default).size ≤ 1048576) => kn w1 fun _ => ife (w1.length : Int) 0 (fun h1 _ => fiB false (F104 w1) (condT h1 rfl)) (fun h1 _ => ai (by (first | omega | (rcases Classical.em ((w1.length : Int) = 3) with h3 | h3; omega; (rcases Classical.em ((w1.length : Int) = 5) with h5 | h5; omega; (have e3 : ((w1.length : Int) == 3) = false := beq_eq_false_iff_ne.2 h3; have e5 : ((w1.length : Int) == 5) = false := beq_eq_false_iff_ne.2 h5; simp [e3, e5] at *)))) : 0 ≤ (0 : Int) ∧ (0 : Int) < (w1.length : Int)) (ifb ((w1.getD (Int.toNat 0) default).toList == w4_.toList) (fun h2 => ai (fun k3 : ((w1.length : Int) == 2) = true => have _ := eq_of_beq k3; (by (first | omega | (rcases Classical.em ((w1.length : Int) = 3) with h3 | h3; omega; (rcases Classical.em ((w1.length : Int) = 5) with h5 | h5; omega; (have e3 : ((w1.length : Int) == 3) = false := beq_eq_false_iff_ne.2 h3; have e5 : ((w1.length : Int) == 5) = false := beq_eq_false_iff_ne.2 h5; simp [e3, e5] at *)))) : 0 ≤ (1 : Int) ∧ (1 : Int) < (w1.length : Int))) (Qwd ((w1.length : Int) == 2) true (w1.getD (Int.toNat 1) default) (fun k4 => have _ := eq_of_beq k4; (by first | (have hz : ∀ k : Nat, (w1.getD k default).size ≤ 1048576 := by assumption; exact hz _) | omega | exact hpre0 _ | (intros; exact trivial) | (intros; exact Nat.zero_le _))) (fiB (bif ((w1.length : Int) == 2) then (F126 (w1.getD (Int.toNat 1) default)) else false) (F104 w1) (condF h1 (condT h2 rfl))))) (fun h2 => ifb ((w1.getD (Int.toNat 0) default).toList == w10_.toList) (fun h5 => ai (fun k6 : ((w1.length : Int) == 3) = true => have _ := eq_of_beq k6; (by (first | omega | (rcases Classical.em ((w1.length : Int) = 3) with h3 | h3; omega; (rcases Classical.em ((w1.length : Int) = 5) with h5 | h5; omega; (have e3 : ((w1.length : Int) == 3) = false := beq_eq_false_iff_ne.2 h3; have e5 : ((w1.length : Int) == 5) = false := beq_eq_false_iff_ne.2 h5; simp [e3, e5] at *)))) : 0 ≤ (1 : Int) ∧ (1 : Int) < (w1.length : Int))) (Qwd ((w1.length : Int) == 3) true (w1.getD (Int.toNat 1) default) (fun k7 => have _ := eq_of_beq k7; (by first | (have hz : ∀ k : Nat, (w1.getD k default).size ≤ 1048576 := by assumption; exact hz _) | omega | exact hpre0 _ | (intros; exact trivial) | (intros; exact Nat.zero_le _))) (ai (fun k8 : (bif ((w1.length : Int) == 3) then (F126 (w1.getD (Int.toNat 1) default)) else false) = true => have _ := eq_of_beq (Qi k8); (by (first | omega | (rcases Classical.em ((w1.length : Int) = 3) with h3 | h3; omega; (rcases Classical.em ((w1.length : Int) = 5) with h5 | h5; omega; (have e3 : ((w1.length : Int) == 3) = false := beq_eq_false_iff_ne.2 h3; have e5 : ((w1.length : Int) == 5) = false := beq_eq_false_iff_ne.2 h5; simp [e3, e5] at *)))) : 0 ≤ (2 : Int) ∧ (2 : Int) < (w1.length : Int))) (kg127 (bif ((w1.length : Int) == 3) then (F126 (w1.getD (Int.toNat 1) default)) else false) true (w1.getD (Int.toNat 2) default) (fun k9 => have _ := eq_of_beq (Qi k9); (by first | (have hz : ∀ k : Nat, (w1.getD k default).size ≤ 1048576 := by assumption; exact hz _) | omega | exact hpre0 _ | (intros; exact trivial) | (intros; exact Nat.zero_le _))) (fiB (bif (bif ((w1.length : Int) == 3) then (F126 (w1.getD (Int.toNat 1) default)) else false) then (F127 (w1.getD (Int.toNat 2) default)) else false) (F104 w1) (condF h1 (condF h2 (condT h5 rfl)))))))) (fun h5 => ifb ((w1.getD (Int.toNat 0) default).toList == w7_.toList) (fun h10 => ai (fun k12 : ((w1.length : Int) == 5) = true => have _ := eq_of_beq k12; (fun k11 : ((w1.length : Int) == 3) = false => have _ := beqF k11; (by (first | omega | (rcases Classical.em ((w1.length : Int) = 3) with h3 | h3; omega; (rcases Classical.em ((w1.length : Int) = 5) with h5 | h5; omega; (have e3 : ((w1.length : Int) == 3) = false := beq_eq_false_iff_ne.2 h3; have e5 : ((w1.length : Int) == 5) = false := beq_eq_false_iff_ne.2 h5; simp [e3, e5] at *)))) : 0 ≤ (3 : Int) ∧ (3 : Int) < (w1.length : Int)))) (ai (fun k14 : (bif ((w1.length : Int) == 5) then ((w1.getD (Int.toNat 3) default).toList == w16_.toList) else false) = true => have _ := eq_of_beq (Qi k14); have _ : ((w1.getD (Int.toNat 3) default).toList == w16_.toList) = true := (Qv k14); (fun k13 : ((w1.length : Int) == 3) = false => have _ := beqF k13; (by (first | omega | (rcases Classical.em ((w1.length : Int) = 3) with h3 | h3; omega; (rcases Classical.em ((w1.length : Int) = 5) with h5 | h5; omega; (have e3 : ((w1.length : Int) == 3) = false := beq_eq_false_iff_ne.2 h3; have e5 : ((w1.length : Int) == 5) = false := beq_eq_false_iff_ne.2 h5; simp [e3, e5] at *)))) : 0 ≤ (4 : Int) ∧ (4 : Int) < (w1.length : Int)))) (ai (fun k16 : (bif ((w1.length : Int) == 5) then ((w1.getD (Int.toNat 3) default).toList == w16_.toList) else false) = true => have _ := eq_of_beq (Qi k16); have _ : ((w1.getD (Int.toNat 3) default).toList == w16_.toList) = true := (Qv k16); (fun k15 : ((w1.length : Int) == 3) = false => have _ := beqF k15; (by first | (have hz : ∀ k : Nat, (w1.getD k default).size ≤ 1048576 := by assumption; exact hz _) | omega | exact hpre0 _ | (intros; exact trivial) | (intros; exact Nat.zero_le _) : (w1.getD (Int.toNat 4) default).size ≤ 1048576))) (ai (fun k18 : (bif ((w1.length : Int) == 5) then ((w1.getD (Int.toNat 3) default).toList == w16_.toList) else false) = true => have _ := eq_of_beq (Qi k18); have _ : ((w1.getD (Int.toNat 3) default).toList == w16_.toList) = true := (Qv k18); (fun k17 : ((w1.length : Int) == 3) = false => have _ := beqF k17; (Imp.refl (.v (.string (w1.getD (Int.toNat 4) default)))))) (ai (fun k19 : (bif ((w1.length : Int) == 3) then true else (bif (bif ((w1.length : Int) == 5) then ((w1.getD (Int.toNat 3) default).toList == w16_.toList) else false) then (F126 (w1.getD (Int.toNat 4) default)) else false)) = true => (by (first | omega | (rcases Classical.em ((w1.length : Int) = 3) with h3 | h3; omega; (rcases Classical.em ((w1.length : Int) = 5) with h5 | h5; omega; (have e3 : ((w1.length : Int) == 3) = false := beq_eq_false_iff_ne.2 h3; have e5 : ((w1.length : Int) == 5) = false := beq_eq_false_iff_ne.2 h5; simp [e3, e5] at *)))) : 0 ≤ (1 : Int) ∧ (1 : Int) < (w1.length : Int))) (Wz (bif ((w1.length : Int) == 3) then true else (bif (bif ((w1.length : Int) == 5) then ((w1.getD (Int.toNat 3) default).toList == w16_.toList) else false) then (F126 (w1.getD (Int.toNat 4) default)) else false)) true (w1.getD (Int.toNat 1) default) 0 7 (fun k20 => (by first | (have hz : ∀ k : Nat, (w1.getD k default).size ≤ 1048576 := by assumption; exact hz _) | omega | exact hpre0 _ | (intros; exact trivial) | (intros; exact Nat.zero_le _))) (ai (fun k21 : (bif (bif ((w1.length : Int) == 3) then true else (bif (bif ((w1.length : Int) == 5) then ((w1.getD (Int.toNat 3) default).toList == w16_.toList) else false) then (F126 (w1.getD (Int.toNat 4) default)) else false)) then (decide (0 ≤ F34 (w1.getD (Int.toNat 1) default) ∧ F34 (w1.getD (Int.toNat 1) default) ≤ 7)) else false) = true => have _ := of_decide_eq_true (Qv k21); (by (first | omega | (rcases Classical.em ((w1.length : Int) = 3) with h3 | h3; omega; (rcases Classical.em ((w1.length : Int) = 5) with h5 | h5; omega; (have e3 : ((w1.length : Int) == 3) = false := beq_eq_false_iff_ne.2 h3; have e5 : ((w1.length : Int) == 5) = false := beq_eq_false_iff_ne.2 h5; simp [e3, e5] at *)))) : 0 ≤ (2 : Int) ∧ (2 : Int) < (w1.length : Int))) (Qgw (bif (bif ((w1.length : Int) == 3) then true else (bif (bif ((w1.length : Int) == 5) then ((w1.getD (Int.toNat 3) default).toList == w16_.toList) else false) then (F126 (w1.getD (Int.toNat 4) default)) else false)) then (decide (0 ≤ F34 (w1.getD (Int.toNat 1) default) ∧ F34 (w1.getD (Int.toNat 1) default) ≤ 7)) else false) true (w1.getD (Int.toNat 2) default) (fun k22 => have _ := of_decide_eq_true (Qv k22); (by first | (have hz : ∀ k : Nat, (w1.getD k default).size ≤ 1048576 := by assumption; exact hz _) | omega | exact hpre0 _ | (intros; exact trivial) | (intros; exact Nat.zero_le _))) (fiB (bif (bif (bif ((w1.length : Int) == 3) then true else (bif (bif ((w1.length : Int) == 5) then ((w1.getD (Int.toNat 3) default).toList == w16_.toList) else false) then (F126 (w1.getD (Int.toNat 4) default)) else false)) then (decide (0 ≤ F34 (w1.getD (Int.toNat 1) default) ∧ F34 (w1.getD (Int.toNat 1) default) ≤ 7)) else false) then (F128 (w1.getD (Int.toNat 2) default)) else false) (F104 w1) (condF h1 (condF h2 (condF h5 (condT h10 rfl))))))))))))) (fun h10 => ifb ((w1.getD (Int.toNat 0) default).toList == w9_.toList) (fun h23 => ai (fun k24 : ((w1.length : Int) == 7) = true => have _ := eq_of_beq k24; (by (first | omega | (rcases Classical.em ((w1.length : Int) = 3) with h3 | h3; omega; (rcases Classical.em ((w1.length : Int) = 5) with h5 | h5; omega; (have e3 : ((w1.length : Int) == 3) = false := beq_eq_false_iff_ne.2 h3; have e5 : ((w1.length : Int) == 5) = false := beq_eq_false_iff_ne.2 h5; simp [e3, e5] at *)))) : 0 ≤ (1 : Int) ∧ (1 : Int) < (w1.length : Int))) (Qwd ((w1.length : Int) == 7) true (w1.getD (Int.toNat 1) default) (fun k25 => have _ := eq_of_beq k25; (by first | (have hz : ∀ k : Nat, (w1.getD k default).size ≤ 1048576 := by assumption; exact hz _) | omega | exact hpre0 _ | (intros; exact trivial) | (intros; exact Nat.zero_le _))) (ai (fun k26 : (bif ((w1.length : Int) == 7) then (F126 (w1.getD (Int.toNat 1) default)) else false) = true => have _ := eq_of_beq (Qi k26); (by (first | omega | (rcases Classical.em ((w1.length : Int) = 3) with h3 | h3; omega; (rcases Classical.em ((w1.length : Int) = 5) with h5 | h5; omega; (have e3 : ((w1.length : Int) == 3) = false := beq_eq_false_iff_ne.2 h3; have e5 : ((w1.length : Int) == 5) = false := beq_eq_false_iff_ne.2 h5; simp [e3, e5] at *)))) : 0 ≤ (2 : Int) ∧ (2 : Int) < (w1.length : Int))) (Wz (bif ((w1.length : Int) == 7) then (F126 (w1.getD (Int.toNat 1) default)) else false) true (w1.getD (Int.toNat 2) default) 0 99 (fun k27 => have _ := eq_of_beq (Qi k27); (by first | (have hz : ∀ k : Nat, (w1.getD k default).size ≤ 1048576 := by assumption; exact hz _) | omega | exact hpre0 _ | (intros; exact trivial) | (intros; exact Nat.zero_le _))) (ai (fun k28 : (bif (bif ((w1.length : Int) == 7) then (F126 (w1.getD (Int.toNat 1) default)) else false) then (decide (0 ≤ F34 (w1.getD (Int.toNat 2) default) ∧ F34 (w1.getD (Int.toNat 2) default) ≤ 99)) else false) = true => have _ := eq_of_beq (Qi (Qi k28)); have _ := of_decide_eq_true (Qv k28); (by (first | omega | (rcases Classical.em ((w1.length : Int) = 3) with h3 | h3; omega; (rcases Classical.em ((w1.length : Int) = 5) with h5 | h5; omega; (have e3 : ((w1.length : Int) == 3) = false := beq_eq_false_iff_ne.2 h3; have e5 : ((w1.length : Int) == 5) = false := beq_eq_false_iff_ne.2 h5; simp [e3, e5] at *)))) : 0 ≤ (3 : Int) ∧ (3 : Int) < (w1.length : Int))) (ai (fun k30 : ((w1.getD (Int.toNat 3) default).toList == w17_.toList) = false => (fun k29 : (bif (bif ((w1.length : Int) == 7) then (F126 (w1.getD (Int.toNat 1) default)) else false) then (decide (0 ≤ F34 (w1.getD (Int.toNat 2) default) ∧ F34 (w1.getD (Int.toNat 2) default) ≤ 99)) else false) = true => have _ := eq_of_beq (Qi (Qi k29)); have _ := of_decide_eq_true (Qv k29); (by (first | omega | (rcases Classical.em ((w1.length : Int) = 3) with h3 | h3; omega; (rcases Classical.em ((w1.length : Int) = 5) with h5 | h5; omega; (have e3 : ((w1.length : Int) == 3) = false := beq_eq_false_iff_ne.2 h3; have e5 : ((w1.length : Int) == 5) = false := beq_eq_false_iff_ne.2 h5; simp [e3, e5] at *)))) : 0 ≤ (3 : Int) ∧ (3 : Int) < (w1.length : Int)))) (ai (fun k31 : (bif (bif (bif ((w1.length : Int) == 7) then (F126 (w1.getD (Int.toNat 1) default)) else false) then (decide (0 ≤ F34 (w1.getD (Int.toNat 2) default) ∧ F34 (w1.getD (Int.toNat 2) default) ≤ 99)) else false) then (bif ((w1.getD (Int.toNat 3) default).toList == w17_.toList) then true else ((w1.getD (Int.toNat 3) default).toList == w18_.toList)) else false) = true => have _ := eq_of_beq (Qi (Qi (Qi k31))); have _ := of_decide_eq_true (Qv (Qi k31)); (by (first | omega | (rcases Classical.em ((w1.length : Int) = 3) with h3 | h3; omega; (rcases Classical.em ((w1.length : Int) = 5) with h5 | h5; omega; (have e3 : ((w1.length : Int) == 3) = false := beq_eq_false_iff_ne.2 h3; have e5 : ((w1.length : Int) == 5) = false := beq_eq_false_iff_ne.2 h5; simp [e3, e5] at *)))) : 0 ≤ (4 : Int) ∧ (4 : Int) < (w1.length : Int))) (Qgw (bif (bif (bif ((w1.length : Int) == 7) then (F126 (w1.getD (Int.toNat 1) default)) else false) then (decide (0 ≤ F34 (w1.getD (Int.toNat 2) default) ∧ F34 (w1.getD (Int.toNat 2) default) ≤ 99)) else false) then (bif ((w1.getD (Int.toNat 3) default).toList == w17_.toList) then true else ((w1.getD (Int.toNat 3) default).toList == w18_.toList)) else false) true (w1.getD (Int.toNat 4) default) (fun k32 => have _ := eq_of_beq (Qi (Qi (Qi k32))); have _ := of_decide_eq_true (Qv (Qi k32)); (by first | (have hz : ∀ k : Nat, (w1.getD k default).size ≤ 1048576 := by assumption; exact hz _) | omega | exact hpre0 _ | (intros; exact trivial) | (intros; exact Nat.zero_le _))) (ai (fun k33 : (bif (bif (bif (bif ((w1.length : Int) == 7) then (F126 (w1.getD (Int.toNat 1) default)) else false) then (decide (0 ≤ F34 (w1.getD (Int.toNat 2) default) ∧ F34 (w1.getD (Int.toNat 2) default) ≤ 99)) else false) then (bif ((w1.getD (Int.toNat 3) default).toList == w17_.toList) then true else ((w1.getD (Int.toNat 3) default).toList == w18_.toList)) else false) then (F128 (w1.getD (Int.toNat 4) default)) else false) = true => have _ := eq_of_beq (Qi (Qi (Qi (Qi k33)))); have _ := of_decide_eq_true (Qv (Qi (Qi k33))); (by (first | omega | (rcases Classical.em ((w1.length : Int) = 3) with h3 | h3; omega; (rcases Classical.em ((w1.length : Int) = 5) with h5 | h5; omega; (have e3 : ((w1.length : Int) == 3) = false := beq_eq_false_iff_ne.2 h3; have e5 : ((w1.length : Int) == 5) = false := beq_eq_false_iff_ne.2 h5; simp [e3, e5] at *)))) : 0 ≤ (5 : Int) ∧ (5 : Int) < (w1.length : Int))) (Qgw (bif (bif (bif (bif ((w1.length : Int) == 7) then (F126 (w1.getD (Int.toNat 1) default)) else false) then (decide (0 ≤ F34 (w1.getD (Int.toNat 2) default) ∧ F34 (w1.getD (Int.toNat 2) default) ≤ 99)) else false) then (bif ((w1.getD (Int.toNat 3) default).toList == w17_.toList) then true else ((w1.getD (Int.toNat 3) default).toList == w18_.toList)) else false) then (F128 (w1.getD (Int.toNat 4) default)) else false) true (w1.getD (Int.toNat 5) default) (fun k34 => have _ := eq_of_beq (Qi (Qi (Qi (Qi k34)))); have _ := of_decide_eq_true (Qv (Qi (Qi k34))); (by first | (have hz : ∀ k : Nat, (w1.getD k default).size ≤ 1048576 := by assumption; exact hz _) | omega | exact hpre0 _ | (intros; exact trivial) | (intros; exact Nat.zero_le _))) (ai (fun k35 : (bif (bif (bif (bif (bif ((w1.length : Int) == 7) then (F126 (w1.getD (Int.toNat 1) default)) else false) then (decide (0 ≤ F34 (w1.getD (Int.toNat 2) default) ∧ F34 (w1.getD (Int.toNat 2) default) ≤ 99)) else false) then (bif ((w1.getD (Int.toNat 3) default).toList == w17_.toList) then true else ((w1.getD (Int.toNat 3) default).toList == w18_.toList)) else false) then (F128 (w1.getD (Int.toNat 4) default)) else false) then (F128 (w1.getD (Int.toNat 5) default)) else false) = true => have _ := eq_of_beq (Qi (Qi (Qi (Qi (Qi k35))))); have _ := of_decide_eq_true (Qv (Qi (Qi (Qi k35)))); (by (first | omega | (rcases Classical.em ((w1.length : Int) = 3) with h3 | h3; omega; (rcases Classical.em ((w1.length : Int) = 5) with h5 | h5; omega; (have e3 : ((w1.length : Int) == 3) = false := beq_eq_false_iff_ne.2 h3; have e5 : ((w1.length : Int) == 5) = false := beq_eq_false_iff_ne.2 h5; simp [e3, e5] at *)))) : 0 ≤ (6 : Int) ∧ (6 : Int) < (w1.length : Int))) (Wz (bif (bif (bif (bif (bif ((w1.length : Int) == 7) then (F126 (w1.getD (Int.toNat 1) default)) else false) then (decide (0 ≤ F34 (w1.getD (Int.toNat 2) default) ∧ F34 (w1.getD (Int.toNat 2) default) ≤ 99)) else false) then (bif ((w1.getD (Int.toNat 3) default).toList == w17_.toList) then true else ((w1.getD (Int.toNat 3) default).toList == w18_.toList)) else false) then (F128 (w1.getD (Int.toNat 4) default)) else false) then (F128 (w1.getD (Int.toNat 5) default)) else false) true (w1.getD (Int.toNat 6) default) 0 7 (fun k36 => have _ := eq_of_beq (Qi (Qi (Qi (Qi (Qi k36))))); have _ := of_decide_eq_true (Qv (Qi (Qi (Qi k36)))); (by first | (have hz : ∀ k : Nat, (w1.getD k default).size ≤ 1048576 := by assumption; exact hz _) | omega | exact hpre0 _ | (intros; exact trivial) | (intros; exact Nat.zero_le _))) (fiB (bif (bif (bif (bif (bif (bif ((w1.length : Int) == 7) then (F126 (w1.getD (Int.toNat 1) default)) else false) then (decide (0 ≤ F34 (w1.getD (Int.toNat 2) default) ∧ F34 (w1.getD (Int.toNat 2) default) ≤ 99)) else false) then (bif ((w1.getD (Int.toNat 3) default).toList == w17_.toList) then true else ((w1.getD (Int.toNat 3) default).toList == w18_.toList)) else false) then (F128 (w1.getD (Int.toNat 4) default)) else false) then (F128 (w1.getD (Int.toNat 5) default)) else false) then (decide (0 ≤ F34 (w1.getD (Int.toNat 6) default) ∧ F34 (w1.getD (Int.toNat 6) default) ≤ 7)) else false) (F104 w1) (condF h1 (condF h2 (condF h5 (condF h10 (condT h23 rfl)))))))))))))))))) (fun h23 => ifb ((w1.getD (Int.toNat 0) default).toList == w8_.toList) (fun h37 => ai (fun k38 : ((w1.length : Int) == 3) = true => have _ := eq_of_beq k38; (by (first | omega | (rcases Classical.em ((w1.length : Int) = 3) with h3 | h3; omega; (rcases Classical.em ((w1.length : Int) = 5) with h5 | h5; omega; (have e3 : ((w1.length : Int) == 3) = false := beq_eq_false_iff_ne.2 h3; have e5 : ((w1.length : Int) == 5) = false := beq_eq_false_iff_ne.2 h5; simp [e3, e5] at *)))) : 0 ≤ (1 : Int) ∧ (1 : Int) < (w1.length : Int))) (Qgw ((w1.length : Int) == 3) true (w1.getD (Int.toNat 1) default) (fun k39 => have _ := eq_of_beq k39; (by first | (have hz : ∀ k : Nat, (w1.getD k default).size ≤ 1048576 := by assumption; exact hz _) | omega | exact hpre0 _ | (intros; exact trivial) | (intros; exact Nat.zero_le _))) (ai (fun k40 : (bif ((w1.length : Int) == 3) then (F128 (w1.getD (Int.toNat 1) default)) else false) = true => have _ := eq_of_beq (Qi k40); (by (first | omega | (rcases Classical.em ((w1.length : Int) = 3) with h3 | h3; omega; (rcases Classical.em ((w1.length : Int) = 5) with h5 | h5; omega; (have e3 : ((w1.length : Int) == 3) = false := beq_eq_false_iff_ne.2 h3; have e5 : ((w1.length : Int) == 5) = false := beq_eq_false_iff_ne.2 h5; simp [e3, e5] at *)))) : 0 ≤ (2 : Int) ∧ (2 : Int) < (w1.length : Int))) (kg31 (bif ((w1.length : Int) == 3) then (F128 (w1.getD (Int.toNat 1) default)) else false) true (w1.getD (Int.toNat 2) default) (fun k41 => have _ := eq_of_beq (Qi k41); (by first | (have hz : ∀ k : Nat, (w1.getD k default).size ≤ 1048576 := by assumption; exact hz _) | omega | exact hpre0 _ | (intros; exact trivial) | (intros; exact Nat.zero_le _))) (fiB (bif (bif ((w1.length : Int) == 3) then (F128 (w1.getD (Int.toNat 1) default)) else false) then decide ((F31 (w1.getD (Int.toNat 2) default)) ≥ 0) else false) (F104 w1) (condF h1 (condF h2 (condF h5 (condF h10 (condF h23 (condT h37 rfl))))))))))) (fun h37 => ifb ((w1.getD (Int.toNat 0) default).toList == w6_.toList) (fun h42 => ai (fun k43 : ((w1.length : Int) == 4) = true => have _ := eq_of_beq k43; (by (first | omega | (rcases Classical.em ((w1.length : Int) = 3) with h3 | h3; omega; (rcases Classical.em ((w1.length : Int) = 5) with h5 | h5; omega; (have e3 : ((w1.length : Int) == 3) = false := beq_eq_false_iff_ne.2 h3; have e5 : ((w1.length : Int) == 5) = false := beq_eq_false_iff_ne.2 h5; simp [e3, e5] at *)))) : 0 ≤ (1 : Int) ∧ (1 : Int) < (w1.length : Int))) (kg31 ((w1.length : Int) == 4) true (w1.getD (Int.toNat 1) default) (fun k44 => have _ := eq_of_beq k44; (by first | (have hz : ∀ k : Nat, (w1.getD k default).size ≤ 1048576 := by assumption; exact hz _) | omega | exact hpre0 _ | (intros; exact trivial) | (intros; exact Nat.zero_le _))) (ai (fun k45 : (bif ((w1.length : Int) == 4) then decide ((F31 (w1.getD (Int.toNat 1) default)) ≥ 0) else false) = true => have _ := eq_of_beq (Qi k45); have _ := of_decide_eq_true (Qv k45); (by (first | omega | (rcases Classical.em ((w1.length : Int) = 3) with h3 | h3; omega; (rcases Classical.em ((w1.length : Int) = 5) with h5 | h5; omega; (have e3 : ((w1.length : Int) == 3) = false := beq_eq_false_iff_ne.2 h3; have e5 : ((w1.length : Int) == 5) = false := beq_eq_false_iff_ne.2 h5; simp [e3, e5] at *)))) : 0 ≤ (2 : Int) ∧ (2 : Int) < (w1.length : Int))) (Wz (bif ((w1.length : Int) == 4) then decide ((F31 (w1.getD (Int.toNat 1) default)) ≥ 0) else false) true (w1.getD (Int.toNat 2) default) 1 9 (fun k46 => have _ := eq_of_beq (Qi k46); have _ := of_decide_eq_true (Qv k46); (by first | (have hz : ∀ k : Nat, (w1.getD k default).size ≤ 1048576 := by assumption; exact hz _) | omega | exact hpre0 _ | (intros; exact trivial) | (intros; exact Nat.zero_le _))) (ai (fun k47 : (bif (bif ((w1.length : Int) == 4) then decide ((F31 (w1.getD (Int.toNat 1) default)) ≥ 0) else false) then (decide (1 ≤ F34 (w1.getD (Int.toNat 2) default) ∧ F34 (w1.getD (Int.toNat 2) default) ≤ 9)) else false) = true => have _ := eq_of_beq (Qi (Qi k47)); have _ := of_decide_eq_true (Qv (Qi k47)); have _ := of_decide_eq_true (Qv k47); (by (first | omega | (rcases Classical.em ((w1.length : Int) = 3) with h3 | h3; omega; (rcases Classical.em ((w1.length : Int) = 5) with h5 | h5; omega; (have e3 : ((w1.length : Int) == 3) = false := beq_eq_false_iff_ne.2 h3; have e5 : ((w1.length : Int) == 5) = false := beq_eq_false_iff_ne.2 h5; simp [e3, e5] at *)))) : 0 ≤ (3 : Int) ∧ (3 : Int) < (w1.length : Int))) (Wz (bif (bif ((w1.length : Int) == 4) then decide ((F31 (w1.getD (Int.toNat 1) default)) ≥ 0) else false) then (decide (1 ≤ F34 (w1.getD (Int.toNat 2) default) ∧ F34 (w1.getD (Int.toNat 2) default) ≤ 9)) else false) true (w1.getD (Int.toNat 3) default) 1 999999 (fun k48 => have _ := eq_of_beq (Qi (Qi k48)); have _ := of_decide_eq_true (Qv (Qi k48)); have _ := of_decide_eq_true (Qv k48); (by first | (have hz : ∀ k : Nat, (w1.getD k default).size ≤ 1048576 := by assumption; exact hz _) | omega | exact hpre0 _ | (intros; exact trivial) | (intros; exact Nat.zero_le _))) (fiB (bif (bif (bif ((w1.length : Int) == 4) then decide ((F31 (w1.getD (Int.toNat 1) default)) ≥ 0) else false) then (decide (1 ≤ F34 (w1.getD (Int.toNat 2) default) ∧ F34 (w1.getD (Int.toNat 2) default) ≤ 9)) else false) then (decide (1 ≤ F34 (w1.getD (Int.toNat 3) default) ∧ F34 (w1.getD (Int.toNat 3) default) ≤ 999999)) else false) (F104 w1) (condF h1 (condF h2 (condF h5 (condF h10 (condF h23 (condF h37 (condT h42 rfl)))))))))))))) (fun h42 => ifb ((w1.getD (Int.toNat 0) default).toList == w5_.toList) (fun h49 => ai (fun k50 : ((w1.length : Int) == 5) = true => have _ := eq_of_beq k50; (by (first | omega | (rcases Classical.em ((w1.length : Int) = 3) with h3 | h3; omega; (rcases Classical.em ((w1.length : Int) = 5) with h5 | h5; omega; (have e3 : ((w1.length : Int) == 3) = false := beq_eq_false_iff_ne.2 h3; have e5 : ((w1.length : Int) == 5) = false := beq_eq_false_iff_ne.2 h5; simp [e3, e5] at *)))) : 0 ≤ (1 : Int) ∧ (1 : Int) < (w1.length : Int))) (Qgw ((w1.length : Int) == 5) true (w1.getD (Int.toNat 1) default) (fun k51 => have _ := eq_of_beq k51; (by first | (have hz : ∀ k : Nat, (w1.getD k default).size ≤ 1048576 := by assumption; exact hz _) | omega | exact hpre0 _ | (intros; exact trivial) | (intros; exact Nat.zero_le _))) (ai (fun k52 : (bif ((w1.length : Int) == 5) then (F128 (w1.getD (Int.toNat 1) default)) else false) = true => have _ := eq_of_beq (Qi k52); (by (first | omega | (rcases Classical.em ((w1.length : Int) = 3) with h3 | h3; omega; (rcases Classical.em ((w1.length : Int) = 5) with h5 | h5; omega; (have e3 : ((w1.length : Int) == 3) = false := beq_eq_false_iff_ne.2 h3; have e5 : ((w1.length : Int) == 5) = false := beq_eq_false_iff_ne.2 h5; simp [e3, e5] at *)))) : 0 ≤ (2 : Int) ∧ (2 : Int) < (w1.length : Int))) (kg31 (bif ((w1.length : Int) == 5) then (F128 (w1.getD (Int.toNat 1) default)) else false) true (w1.getD (Int.toNat 2) default) (fun k53 => have _ := eq_of_beq (Qi k53); (by first | (have hz : ∀ k : Nat, (w1.getD k default).size ≤ 1048576 := by assumption; exact hz _) | omega | exact hpre0 _ | (intros; exact trivial) | (intros; exact Nat.zero_le _))) (ai (fun k54 : (bif (bif ((w1.length : Int) == 5) then (F128 (w1.getD (Int.toNat 1) default)) else false) then decide ((F31 (w1.getD (Int.toNat 2) default)) ≥ 0) else false) = true => have _ := eq_of_beq (Qi (Qi k54)); have _ := of_decide_eq_true (Qv k54); (by (first | omega | (rcases Classical.em ((w1.length : Int) = 3) with h3 | h3; omega; (rcases Classical.em ((w1.length : Int) = 5) with h5 | h5; omega; (have e3 : ((w1.length : Int) == 3) = false := beq_eq_false_iff_ne.2 h3; have e5 : ((w1.length : Int) == 5) = false := beq_eq_false_iff_ne.2 h5; simp [e3, e5] at *)))) : 0 ≤ (3 : Int) ∧ (3 : Int) < (w1.length : Int))) (Wz (bif (bif ((w1.length : Int) == 5) then (F128 (w1.getD (Int.toNat 1) default)) else false) then decide ((F31 (w1.getD (Int.toNat 2) default)) ≥ 0) else false) true (w1.getD (Int.toNat 3) default) 1 65535 (fun k55 => have _ := eq_of_beq (Qi (Qi k55)); have _ := of_decide_eq_true (Qv k55); (by first | (have hz : ∀ k : Nat, (w1.getD k default).size ≤ 1048576 := by assumption; exact hz _) | omega | exact hpre0 _ | (intros; exact trivial) | (intros; exact Nat.zero_le _))) (ai (fun k56 : (bif (bif (bif ((w1.length : Int) == 5) then (F128 (w1.getD (Int.toNat 1) default)) else false) then decide ((F31 (w1.getD (Int.toNat 2) default)) ≥ 0) else false) then (decide (1 ≤ F34 (w1.getD (Int.toNat 3) default) ∧ F34 (w1.getD (Int.toNat 3) default) ≤ 65535)) else false) = true => have _ := eq_of_beq (Qi (Qi (Qi k56))); have _ := of_decide_eq_true (Qv (Qi k56)); have _ := of_decide_eq_true (Qv k56); (by (first | omega | (rcases Classical.em ((w1.length : Int) = 3) with h3 | h3; omega; (rcases Classical.em ((w1.length : Int) = 5) with h5 | h5; omega; (have e3 : ((w1.length : Int) == 3) = false := beq_eq_false_iff_ne.2 h3; have e5 : ((w1.length : Int) == 5) = false := beq_eq_false_iff_ne.2 h5; simp [e3, e5] at *)))) : 0 ≤ (4 : Int) ∧ (4 : Int) < (w1.length : Int))) (Wz (bif (bif (bif ((w1.length : Int) == 5) then (F128 (w1.getD (Int.toNat 1) default)) else false) then decide ((F31 (w1.getD (Int.toNat 2) default)) ≥ 0) else false) then (decide (1 ≤ F34 (w1.getD (Int.toNat 3) default) ∧ F34 (w1.getD (Int.toNat 3) default) ≤ 65535)) else false) true (w1.getD (Int.toNat 4) default) 1 65535 (fun k57 => have _ := eq_of_beq (Qi (Qi (Qi k57))); have _ := of_decide_eq_true (Qv (Qi k57)); have _ := of_decide_eq_true (Qv k57); (by first | (have hz : ∀ k : Nat, (w1.getD k default).size ≤ 1048576 := by assumption; exact hz _) | omega | exact hpre0 _ | (intros; exact trivial) | (intros; exact Nat.zero_le _))) (fiB (bif (bif (bif (bif ((w1.length : Int) == 5) then (F128 (w1.getD (Int.toNat 1) default)) else false) then decide ((F31 (w1.getD (Int.toNat 2) default)) ≥ 0) else false) then (decide (1 ≤ F34 (w1.getD (Int.toNat 3) default) ∧ F34 (w1.getD (Int.toNat 3) default) ≤ 65535)) else false) then (decide (1 ≤ F34 (w1.getD (Int.toNat 4) default) ∧ F34 (w1.getD (Int.toNat 4) default) ≤ 65535)) else false) (F104 w1) (condF h1 (condF h2 (condF h5 (condF h10 (condF h23 (condF h37 (condF h42 (condT h49 rfl))))))))))))))))) (fun h49 => ifb ((w1.getD (Int.toNat 0) default).toList == w3_.toList) (fun h58 => ai (fun k59 : ((w1.length : Int) == 5) = true => have _ := eq_of_beq k59; (by (first | omega | (rcases Classical.em ((w1.length : Int) = 3) with h3 | h3; omega; (rcases Classical.em ((w1.length : Int) = 5) with h5 | h5; omega; (have e3 : ((w1.length : Int) == 3) = false := beq_eq_false_iff_ne.2 h3; have e5 : ((w1.length : Int) == 5) = false := beq_eq_false_iff_ne.2 h5; simp [e3, e5] at *)))) : 0 ≤ (1 : Int) ∧ (1 : Int) < (w1.length : Int))) (Wz ((w1.length : Int) == 5) true (w1.getD (Int.toNat 1) default) 1 7 (fun k60 => have _ := eq_of_beq k60; (by first | (have hz : ∀ k : Nat, (w1.getD k default).size ≤ 1048576 := by assumption; exact hz _) | omega | exact hpre0 _ | (intros; exact trivial) | (intros; exact Nat.zero_le _))) (ai (fun k61 : (bif ((w1.length : Int) == 5) then (decide (1 ≤ F34 (w1.getD (Int.toNat 1) default) ∧ F34 (w1.getD (Int.toNat 1) default) ≤ 7)) else false) = true => have _ := eq_of_beq (Qi k61); have _ := of_decide_eq_true (Qv k61); (by (first | omega | (rcases Classical.em ((w1.length : Int) = 3) with h3 | h3; omega; (rcases Classical.em ((w1.length : Int) = 5) with h5 | h5; omega; (have e3 : ((w1.length : Int) == 3) = false := beq_eq_false_iff_ne.2 h3; have e5 : ((w1.length : Int) == 5) = false := beq_eq_false_iff_ne.2 h5; simp [e3, e5] at *)))) : 0 ≤ (2 : Int) ∧ (2 : Int) < (w1.length : Int))) (Wz (bif ((w1.length : Int) == 5) then (decide (1 ≤ F34 (w1.getD (Int.toNat 1) default) ∧ F34 (w1.getD (Int.toNat 1) default) ≤ 7)) else false) true (w1.getD (Int.toNat 2) default) 1 65535 (fun k62 => have _ := eq_of_beq (Qi k62); have _ := of_decide_eq_true (Qv k62); (by first | (have hz : ∀ k : Nat, (w1.getD k default).size ≤ 1048576 := by assumption; exact hz _) | omega | exact hpre0 _ | (intros; exact trivial) | (intros; exact Nat.zero_le _))) (ai (fun k63 : (bif (bif ((w1.length : Int) == 5) then (decide (1 ≤ F34 (w1.getD (Int.toNat 1) default) ∧ F34 (w1.getD (Int.toNat 1) default) ≤ 7)) else false) then (decide (1 ≤ F34 (w1.getD (Int.toNat 2) default) ∧ F34 (w1.getD (Int.toNat 2) default) ≤ 65535)) else false) = true => have _ := eq_of_beq (Qi (Qi k63)); have _ := of_decide_eq_true (Qv (Qi k63)); have _ := of_decide_eq_true (Qv k63); (by (first | omega | (rcases Classical.em ((w1.length : Int) = 3) with h3 | h3; omega; (rcases Classical.em ((w1.length : Int) = 5) with h5 | h5; omega; (have e3 : ((w1.length : Int) == 3) = false := beq_eq_false_iff_ne.2 h3; have e5 : ((w1.length : Int) == 5) = false := beq_eq_false_iff_ne.2 h5; simp [e3, e5] at *)))) : 0 ≤ (3 : Int) ∧ (3 : Int) < (w1.length : Int))) (kg31 (bif (bif ((w1.length : Int) == 5) then (decide (1 ≤ F34 (w1.getD (Int.toNat 1) default) ∧ F34 (w1.getD (Int.toNat 1) default) ≤ 7)) else false) then (decide (1 ≤ F34 (w1.getD (Int.toNat 2) default) ∧ F34 (w1.getD (Int.toNat 2) default) ≤ 65535)) else false) true (w1.getD (Int.toNat 3) default) (fun k64 => have _ := eq_of_beq (Qi (Qi k64)); have _ := of_decide_eq_true (Qv (Qi k64)); have _ := of_decide_eq_true (Qv k64); (by first | (have hz : ∀ k : Nat, (w1.getD k default).size ≤ 1048576 := by assumption; exact hz _) | omega | exact hpre0 _ | (intros; exact trivial) | (intros; exact Nat.zero_le _))) (ai (fun k65 : (bif (bif (bif ((w1.length : Int) == 5) then (decide (1 ≤ F34 (w1.getD (Int.toNat 1) default) ∧ F34 (w1.getD (Int.toNat 1) default) ≤ 7)) else false) then (decide (1 ≤ F34 (w1.getD (Int.toNat 2) default) ∧ F34 (w1.getD (Int.toNat 2) default) ≤ 65535)) else false) then decide ((F31 (w1.getD (Int.toNat 3) default)) ≥ 0) else false) = true => have _ := eq_of_beq (Qi (Qi (Qi k65))); have _ := of_decide_eq_true (Qv (Qi (Qi k65))); have _ := of_decide_eq_true (Qv (Qi k65)); have _ := of_decide_eq_true (Qv k65); (by (first | omega | (rcases Classical.em ((w1.length : Int) = 3) with h3 | h3; omega; (rcases Classical.em ((w1.length : Int) = 5) with h5 | h5; omega; (have e3 : ((w1.length : Int) == 3) = false := beq_eq_false_iff_ne.2 h3; have e5 : ((w1.length : Int) == 5) = false := beq_eq_false_iff_ne.2 h5; simp [e3, e5] at *)))) : 0 ≤ (4 : Int) ∧ (4 : Int) < (w1.length : Int))) (Wz (bif (bif (bif ((w1.length : Int) == 5) then (decide (1 ≤ F34 (w1.getD (Int.toNat 1) default) ∧ F34 (w1.getD (Int.toNat 1) default) ≤ 7)) else false) then (decide (1 ≤ F34 (w1.getD (Int.toNat 2) default) ∧ F34 (w1.getD (Int.toNat 2) default) ≤ 65535)) else false) then decide ((F31 (w1.getD (Int.toNat 3) default)) ≥ 0) else false) true (w1.getD (Int.toNat 4) default) 1 65535 (fun k66 => have _ := eq_of_beq (Qi (Qi (Qi k66))); have _ := of_decide_eq_true (Qv (Qi (Qi k66))); have _ := of_decide_eq_true (Qv (Qi k66)); have _ := of_decide_eq_true (Qv k66); (by first | (have hz : ∀ k : Nat, (w1.getD k default).size ≤ 1048576 := by assumption; exact hz _) | omega | exact hpre0 _ | (intros; exact trivial) | (intros; exact Nat.zero_le _))) (fiB (bif (bif (bif (bif ((w1.length : Int) == 5) then (decide (1 ≤ F34 (w1.getD (Int.toNat 1) default) ∧ F34 (w1.getD (Int.toNat 1) default) ≤ 7)) else false) then (decide (1 ≤ F34 (w1.getD (Int.toNat 2) default) ∧ F34 (w1.getD (Int.toNat 2) default) ≤ 65535)) else false) then decide ((F31 (w1.getD (Int.toNat 3) default)) ≥ 0) else false) then (decide (1 ≤ F34 (w1.getD (Int.toNat 4) default) ∧ F34 (w1.getD (Int.toNat 4) default) ≤ 65535)) else false) (F104 w1) (condF h1 (condF h2 (condF h5 (condF h10 (condF h23 (condF h37 (condF h42 (condF h49 (condT h58 rfl)))))))))))))))))) (fun h58 => fiB false (F104 w1) (condF h1 (condF h2 (condF h5 (condF h10 (condF h23 (condF h37 (condF h42 (condF h49 (condF h58 rfl)))))))))))))))))))) (by kernel_rfl)
def Zh (list : List ByteArray) (with' : ByteArray) : (ByteArray × Int) → Lp (ByteArray × Int) ByteArray := fun (out, i40) =>
 bif (decide (i40 < (list.length : Int))) then (bif (decide (i40 > 0)) then (.next (((out ++ with') ++ (list.getD (Int.toNat i40) default)), (i40 + 1))) else (.next ((out ++ (list.getD (Int.toNat i40) default)), (i40 + 1)))) else (.done (out, i40))
def F105 (list : List ByteArray) (with' : ByteArray) : ByteArray :=
 (runL (Zh list with') ((Int.toNat ((list.length : Int) - 0)) + 1) ((⟨#[]⟩ : ByteArray), 0)).fin (fun r => r) (fun (out, i40) => out)
abbrev Gu (list : List ByteArray) : Nat × (ByteArray × Int) := (((Int.toNat ((list.length : Int) - 0)) + 1), (w13_, 0))
abbrev Qdn (list : List ByteArray) (m39 : Nat) (out : ByteArray) (i40 : Int) : Prop := Int.toNat ((list.length : Int) - i40) < m39 ∧ (out.size : Int) ≤ i40 * 1048577 ∧ (0 : Int) ≤ i40
abbrev Qmx (list : List ByteArray) (with' : ByteArray) : Lp (ByteArray × Int) ByteArray := LpX (Zh list with') (Gu list)
abbrev He (list : List ByteArray) (with' : ByteArray) (i : Nat × (ByteArray × Int)) : Prop := LpJ (Zh list with') (Gu list) i (Qdn list i.1 i.2.1 i.2.2)
abbrev Qls (list : List ByteArray) (with' : ByteArray) (i : Nat × (ByteArray × Int)) (m39 : Nat) (out : ByteArray) (i40 : Int) : Prop := LpH (Zh list with') (Gu list) i m39 (out, i40) (Qdn list (m39 + 1) out i40)
abbrev Qlc (list : List ByteArray) (with' : ByteArray) (out : ByteArray) (i40 : Int) (out_ : ByteArray) (i40_ : Int) (K39 : Prop) : Prop := (Rf (.string with')) ∧ ((.string out : Value) = .string out_) ∧ ((.int .i64 i40 : Value) = .int .i64 i40_) ∧ (Im (.l 1 eStr list)) ∧ K39
theorem Qyj (list : List ByteArray) (with' : ByteArray) (i : Nat × (ByteArray × Int)) (h : He list with' i) : Qls list with' i (i.1 - 1) i.2.1 i.2.2 := ⟨hd1 h.1 h.2.1, hd3 h.2.1, hd2 h.2.1, h.2.2⟩
theorem Qlm (list : List ByteArray) (with' : ByteArray) (i : Nat × (ByteArray × Int)) (m39 : Nat) (out : ByteArray) (i40 : Int) (hl : m39 < i.1) (e : runL (Zh list with') m39 (out, i40) = Qmx list with') (h : Qdn list m39 out i40) : ∃ j : Nat × (ByteArray × Int), Qlc list with' out i40 j.2.1 j.2.2 (He list with' j ∧ j.1 < i.1) := ⟨(m39, (out, i40)), rfl, rfl, rfl, Imp.refl _, ⟨e, h⟩, hl⟩
theorem Qya (list : List ByteArray) (with' : ByteArray) (h : (w13_.size : Int) ≤ 0 * 1048577 ∧ (0 : Int) ≤ 0) : Qlc list with' w13_ 0 w13_ 0 (He list with' (Gu list)) := ⟨rfl, rfl, rfl, Imp.refl _, rfl, Nat.lt_succ_self _, h⟩
def S105 (list : List ByteArray) (with' : ByteArray) : Spec := ⟨[.r (.c (.l 1 eStr list)), .r (.c (.v (.string with')))], .v (.string (F105 list with')), list.length ≤ 8 ∧ (∀ k : Nat, (list.getD k default).size ≤ 1048576) ∧ with'.size ≤ 1⟩
theorem ok105 (list : List ByteArray) (with' : ByteArray) : (S105 list with').ok Tryz.prog 105 :=
 Ql mixed (fn := Tryz.f105) (ct := .seqk [(0, 0)] .no (.seq .no (.seq (.seqk [(0, 0)] .no (.blk (.loop (ι := Nat × (ByteArray × Int)) (fun i => (fun (out : ByteArray) (i40 : Int) => (⟨[(0, some (.h 0 0)), (1, some (.v (.string with'))), (5, some (.v (.string out))), (6, some (.v (vI i40)))], [(0, some (.shr none (.l 1 eStr list)))], 1⟩ : St)) i.2.1 i.2.2) (He list with') (fun i => i.1) (Gu list) (fun i => (fun (out : ByteArray) (i40 : Int) => (.seq (.seq .no (.cond .no .no)) (.seq (.blk (.seq (.seq .no (.cond .no .no)) .no)) (.reg [(1, .bnd)])))) i.2.1 i.2.2)))) (.seq .no .no)))) Tryz.func105 (fun (hp : list.length ≤ 8 ∧ (∀ k : Nat, (list.getD k default).size ≤ 1048576) ∧ with'.size ≤ 1) => have hpre0 := hp.1; have hpre1 := hp.2.1; have hpre2 := hp.2.2; kn list fun _ => kn list fun _ => ai (Qya list with' (by refine ⟨?_, ?_⟩ <;> first | omega | (simp only [lens, ib] at * <;> omega) | ((try simp only [Qd, sz0] at *); omega) | (have hz := (by assumption : ∀ k : Nat, (list.getD k default).size ≤ 1048576) (Int.toNat i40); (try simp only [Qd, sz0] at *); omega))) (fun (i0 : Nat × (ByteArray × Int)) (hi0 : He list with' i0) => (fun (m0 : Nat) (out : ByteArray) (i40 : Int) (hh0 : Qls list with' i0 m0 out i40) => have hI0 := hh0.1; have hl0 := hh0.2.1; have _ := hh0.2.2.1; have _ := hh0.2.2.2; ifd (i40 < (list.length : Int)) (fun h2 _ => ifd (i40 > 0) (fun h3 _ => ai (by have hz := (by assumption : ∀ k : Nat, (list.getD k default).size ≤ 1048576) (Int.toNat i40); (try simp only [Qd, sz0] at *); omega : ((out.size + with'.size : Nat) : Int) ≤ 9223372036854775807) (ai (by first | omega | (simp only [lens, ib] at * <;> omega) : ib i40 list) (ai (by have hz := (by assumption : ∀ k : Nat, (list.getD k default).size ≤ 1048576) (Int.toNat i40); (try simp only [Qd, sz0] at *); omega : (((out ++ with').size + (list.getD (Int.toNat i40) default).size : Nat) : Int) ≤ 9223372036854775807) (ai (iok (i40 + 1) (by first | omega | (simp only [lens, ib] at * <;> omega))) (Qlm list with' i0 m0 ((out ++ with') ++ (list.getD (Int.toNat i40) default)) (i40 + 1) hl0 (Qe hI0 (condT h2 (condT h3 rfl))) (by refine ⟨?_, ?_, ?_⟩ <;> first | omega | (simp only [lens, ib] at * <;> omega) | ((try simp only [Qd, sz0] at *); omega) | (have hz := (by assumption : ∀ k : Nat, (list.getD k default).size ≤ 1048576) (Int.toNat i40); (try simp only [Qd, sz0] at *); omega))))))) (fun h3 _ => ai (by first | omega | (simp only [lens, ib] at * <;> omega) : ib i40 list) (ai (by have hz := (by assumption : ∀ k : Nat, (list.getD k default).size ≤ 1048576) (Int.toNat i40); (try simp only [Qd, sz0] at *); omega : ((out.size + (list.getD (Int.toNat i40) default).size : Nat) : Int) ≤ 9223372036854775807) (ai (iok (i40 + 1) (by first | omega | (simp only [lens, ib] at * <;> omega))) (Qlm list with' i0 m0 (out ++ (list.getD (Int.toNat i40) default)) (i40 + 1) hl0 (Qe hI0 (condT h2 (condF h3 rfl))) (by refine ⟨?_, ?_, ?_⟩ <;> first | omega | (simp only [lens, ib] at * <;> omega) | ((try simp only [Qd, sz0] at *); omega) | (have hz := (by assumption : ∀ k : Nat, (list.getD k default).size ≤ 1048576) (Int.toNat i40); (try simp only [Qd, sz0] at *); omega))))))) (fun h2 _ => have hD0_4 : Qmx list with' = Lp.done (out, i40) := Qk hI0 (condF h2 rfl); fiS out (F105 list with') (finD hD0_4 rfl))) (i0.1 - 1) i0.2.1 i0.2.2 (Qyj list with' i0 hi0))) (by kernel_rfl)
def Zr (b : UInt8) : Bool := decide (48 ≤ b.toNat ∧ b.toNat ≤ 57)
def valL (acc : Nat) (l : List UInt8) : Nat := l.foldl (fun a b => a * 10 + (b.toNat - 48)) acc
theorem Qbl (acc : Nat) (l : List UInt8) (b : UInt8) : valL acc (l ++ [b]) = valL acc l * 10 + (b.toNat - 48) := by
 simp [valL, List.foldl_append]
def Ze (l : List UInt8) : Bool := !l.isEmpty && l.all Zr && !(decide (l.length > 1) && (l.getD 0 0 == 48))
theorem Qna : ∀ (l : List UInt8) (acc : Nat), acc ≤ valL acc l
 | [], acc => Nat.le_refl _
 | b :: l, acc => Nat.le_trans (by omega) (Qna l (acc * 10 + (b.toNat - 48)))
theorem We {b : UInt8} (h : Zr b = true) : 48 ≤ b.toNat ∧ b.toNat ≤ 57 := of_decide_eq_true h
theorem Qcf {b : UInt8} (h : Zr b = true) : UInt8.ofNat (48 + (b.toNat - 48)) = b := by
 have := We h
 rw [show 48 + (b.toNat - 48) = b.toNat by omega]
 exact UInt8.ofNat_toNat
theorem Qba {b : UInt8} {l : List UInt8} (h : Ze (b :: l) = true) (hl : l ≠ []) : 1 ≤ valL 0 (b :: l) := by
 unfold Ze at h
 simp only [Bool.and_eq_true, Bool.not_eq_true', List.all_cons] at h
 obtain ⟨⟨_, hb, _⟩, h0⟩ := h
 have hd := We hb
 have hlen : decide ((b :: l).length > 1) = true := decide_eq_true (by
  cases l with
  | nil => exact absurd rfl hl
  | cons a l => simp)
 rw [hlen, Bool.true_and] at h0
 have hne : b ≠ 48 := by
  have : (b == 48) = false := h0
  exact beq_eq_false_iff_ne.1 this
 have h48 : b.toNat ≠ 48 := fun e => hne (UInt8.toNat_inj.1 e)
 refine Nat.le_trans ?_ (Qna l (0 * 10 + (b.toNat - 48)))
 omega
theorem Qnl {l : List UInt8} {b : UInt8} (hl : l ≠ []) (h : Ze (l ++ [b]) = true) : Ze l = true := by
 unfold Ze at h ⊢
 simp only [Bool.and_eq_true, Bool.not_eq_true', List.all_append] at h ⊢
 obtain ⟨⟨_, ha, _⟩, h0⟩ := h
 cases l with
 | nil => exact absurd rfl hl
 | cons a l =>
  refine ⟨⟨rfl, ha⟩, ?_⟩
  have hlen : decide ((a :: l ++ [b]).length > 1) = true := decide_eq_true (by simp)
  rw [hlen, Bool.true_and] at h0
  have : (a == 48) = false := h0
  have e : ((a :: l).getD 0 0 == (48 : UInt8)) = false := this
  rw [e, Bool.and_false]
theorem Qmz : ∀ (n : Nat) (l : List UInt8), l.length = n → Ze l = true → Lib.decDigits (valL 0 l) = l
 | 0, l, hn, h => by
  rw [List.length_eq_zero_iff.1 hn] at h; cases h
 | n + 1, l, hn, h => by
  have hne : l ≠ [] := fun e => by rw [e] at hn; cases hn
  obtain ⟨i, b, rfl⟩ : ∃ i b, l = i ++ [b] := ⟨l.dropLast, l.getLast hne, (List.dropLast_concat_getLast hne).symm⟩
  have hdb : Zr b = true := by
   unfold Ze at h
   simp only [Bool.and_eq_true, List.all_append, List.all_cons] at h
   exact h.1.2.2.1
  have hb := We hdb
  rw [Qbl]
  by_cases hi : i = []
  ·subst hi
   have e : valL 0 ([] : List UInt8) * 10 + (b.toNat - 48) = b.toNat - 48 := by simp [valL]
   rw [e, Lib.decDigits_one (by omega), Qcf hdb]; rfl
  ·have hin := Qnl hi h
   have hpos : 1 ≤ valL 0 i * 10 + (b.toNat - 48) := by
    cases i with
    | nil => exact absurd rfl hi
    | cons a i =>
     have := Qba (b := a) (l := i ++ [b]) h (by simp)
     have e := Qbl 0 (a :: i) b
     rw [List.cons_append] at e
     omega
   have hip : 1 ≤ valL 0 i := by
    cases i with
    | nil => exact absurd rfl hi
    | cons a i =>
     by_cases hi2 : i = []
     ·subst hi2
      have h0 := h
      unfold Ze at h0
      simp only [Bool.and_eq_true, Bool.not_eq_true', List.all_append, List.all_cons] at h0
      have hd := We h0.1.2.1.1
      have h1 : (a == 48) = false := by
       have := h0.2
       rw [show decide (([a] ++ [b]).length > 1) = true from rfl, Bool.true_and] at this
       exact this
      have h48 : a.toNat ≠ 48 := fun e => beq_eq_false_iff_ne.1 h1 (UInt8.toNat_inj.1 e)
      simp only [valL, List.foldl_cons, List.foldl_nil]
      omega
     ·exact Qba hin hi2
   rw [Lib.decDigits, dif_neg (by omega)]
   have e1 : (valL 0 i * 10 + (b.toNat - 48)) / 10 = valL 0 i := by omega
   have e2 : (valL 0 i * 10 + (b.toNat - 48)) % 10 = b.toNat - 48 := by omega
   have hlen : i.length = n := by
    rw [List.length_append] at hn
    simpa using hn
   rw [e1, e2, Qmz n i hlen hin, Qcf hdb]
theorem Qlb (u : Nat) (h : u < 10) : Zr (UInt8.ofNat (48 + u)) = true := by
 unfold Zr
 rw [UInt8.toNat_ofNat']
 exact decide_eq_true (by omega)
theorem Qbw : ∀ (n u : Nat), u ≤ n → Lib.decDigits u ≠ [] ∧ (Lib.decDigits u).all Zr = true ∧ (1 ≤ u → (Lib.decDigits u).getD 0 0 ≠ 48)
 | n, u, hu => by
  by_cases h : u < 10
  ·rw [Lib.decDigits_one h]
   refine ⟨by simp, by rw [List.all_cons, Qlb u h]; rfl, fun h1 e => ?_⟩
   have e1 : UInt8.ofNat (48 + u) = 48 := e
   have := congrArg UInt8.toNat e1
   rw [UInt8.toNat_ofNat'] at this
   have h48 : (48 : UInt8).toNat = 48 := rfl
   omega
  ·cases n with
   | zero => omega
   | succ n =>
    obtain ⟨h1, h2, h3⟩ := Qbw n (u / 10) (by omega)
    rw [Lib.decDigits, dif_neg h]
    refine ⟨by simp, by rw [List.all_append, h2, List.all_cons, Qlb _ (by omega)]; rfl, fun _ => ?_⟩
    cases hd : Lib.decDigits (u / 10) with
    | nil => exact absurd hd h1
    | cons a l =>
     rw [hd] at h3
     exact h3 (by omega)
theorem Qoy (u : Nat) : Ze (Lib.decDigits u) = true := by
 obtain ⟨h1, h2, h3⟩ := Qbw u u (Nat.le_refl _)
 unfold Ze
 have e1 : (Lib.decDigits u).isEmpty = false := by
  cases hd : Lib.decDigits u with
  | nil => exact absurd hd h1
  | cons a l => rfl
 rw [e1, h2]
 by_cases hu : 1 ≤ u
 ·have e : ((Lib.decDigits u).getD 0 0 == (48 : UInt8)) = false := beq_eq_false_iff_ne.2 (h3 hu)
  rw [e, Bool.and_false]; rfl
 ·have e : Lib.decDigits u = [UInt8.ofNat (48 + u)] := Lib.decDigits_one (by omega)
  rw [e]; rfl
theorem Qbv : ∀ (l : List UInt8) (acc : Nat), l.all Zr = true → (acc + 1) * 10 ^ l.length ≤ 1000000000000000000 → Lib.parseUint10 acc l = .ok (valL acc l)
 | [], acc, _, _ => rfl
 | b :: l, acc, h, hb => by
  rw [List.all_cons, Bool.and_eq_true] at h
  have hd := We h.1
  have hp : 1 ≤ 10 ^ l.length := Nat.one_le_pow _ _ (by omega)
  have e : (acc + 1) * 10 ^ (b :: l).length = ((acc + 1) * 10) * 10 ^ l.length := by
   rw [List.length_cons, Nat.pow_succ, Nat.mul_comm (10 ^ l.length) 10, Nat.mul_assoc]
  rw [e] at hb
  have h1 : (acc + 1) * 10 ≤ 1000000000000000000 := Nat.le_trans (Nat.le_mul_of_pos_right _ hp) hb
  rw [Lib.parseUint10, if_pos hd, if_neg (by omega), if_neg (by omega)]
  exact Qbv l _ h.2 (Nat.le_trans (Nat.mul_le_mul_right _ (by omega)) hb)
theorem Qeb : ∀ (l : List UInt8) (acc : Nat), l.all Zr = true → valL acc l < (acc + 1) * 10 ^ l.length
 | [], acc, _ => by simp [valL]
 | b :: l, acc, h => by
  rw [List.all_cons, Bool.and_eq_true] at h
  have hd := We h.1
  have e : (acc + 1) * 10 ^ (b :: l).length = ((acc + 1) * 10) * 10 ^ l.length := by
   rw [List.length_cons, Nat.pow_succ, Nat.mul_comm (10 ^ l.length) 10, Nat.mul_assoc]
  rw [e]
  exact Nat.lt_of_lt_of_le (Qeb l (acc * 10 + (b.toNat - 48)) h.2) (Nat.mul_le_mul_right _ (by omega))
def num6 (l : List UInt8) : Int := bif Ze l && decide (l.length ≤ 6) then (valL 0 l : Int) else -1
theorem Qdi (v : Int) (h : 0 ≤ v) : Lib.itoa v = Lib.decDigits v.toNat := by
 unfold Lib.itoa
 rw [if_neg (by omega)]
theorem Hf (s : ByteArray) (h : s.size ≤ 6) : decN s = num6 s.data.toList := by
 have hl : s.data.toList.length = s.size := Array.length_toList
 unfold num6
 rw [decide_eq_true (show s.data.toList.length ≤ 6 by omega), Bool.and_true]
 cases hn : Ze s.data.toList with
 | true =>
  have hd := Qmz _ _ rfl hn
  have hn2 := hn
  unfold Ze at hn2
  simp only [Bool.and_eq_true] at hn2
  have hall := hn2.1.2
  have hp := Qbv s.data.toList 0 hall (by
   have : 10 ^ s.data.toList.length ≤ 10 ^ 6 := Nat.pow_le_pow_right (by omega) (by omega)
   omega)
  unfold decN
  cases hs : s.data.toList with
  | nil => rw [hs] at hn; cases hn
  | cons b l =>
   rw [hs] at hall hp hd
   have hb := We (List.all_eq_true.1 hall b List.mem_cons_self)
   have hlt := Lib.parseUint10_lt _ 0 _ (by omega) hp
   have hsmall : valL 0 (b :: l) < 9223372036854775808 := by
    have h1 := Qeb (b :: l) 0 hall
    have h2 : 10 ^ (b :: l).length ≤ 10 ^ 6 := Nat.pow_le_pow_right (by omega) (by rw [← hs]; omega)
    omega
   have ea : Lib.atoiAll (b :: l) = .ok (valL 0 (b :: l) : Int) := by
    unfold Lib.atoiAll
    simp only [if_neg (show ¬ (b.toNat = 43 ∨ b.toNat = 45) by omega), Lib.parseMag, if_neg (show ¬ (b :: l = []) by simp), hp]
    rw [if_neg (by omega), if_neg (by omega), if_neg (by omega)]
   rw [ea]
   have ei : Lib.itoa (valL 0 (b :: l) : Int) = b :: l := by
    rw [Qdi _ (by omega), Int.toNat_natCast, hd]
   simp only [ei]
   rw [decide_eq_true (by omega)]
   simp
 | false =>
  unfold decN
  cases ha : Lib.atoiAll s.data.toList with
  | ok v =>
   by_cases h0 : 0 ≤ v
   ·have e : (Lib.itoa v == s.data.toList) = false := by
     rw [beq_eq_false_iff_ne]
     intro e
     rw [Qdi v h0] at e
     rw [← e, Qoy] at hn
     cases hn
    simp only [e, Bool.and_false]; rfl
   ·simp only [decide_eq_false h0, Bool.false_and]; rfl
  | _ => rfl
theorem u8sub (b : UInt8) (h : Zr b = true) : IntKind.i64.wrap (IntKind.u8.wrap ((b.toNat : Int) - 48)) = ((b.toNat - 48 : Nat) : Int) := by
 have hd := We h
 have e : IntKind.u8.wrap ((b.toNat : Int) - 48) = ((b.toNat : Int) - 48) % 256 := by
  simp [IntKind.wrap, IntKind.signed, IntKind.bits]
 rw [e, Zb (by omega) (by omega)]
 omega
theorem Qpo (b : UInt8) : decide ((48 : Int) ≤ (b.toNat : Int) ∧ (b.toNat : Int) ≤ 57) = Zr b := by
 unfold Zr
 congr 1
 exact propext ⟨fun h => by omega, fun h => by omega⟩
theorem Qsq (s : ByteArray) (a i : Nat) (hi : i < s.size) (ha : a ≤ 100000000) (b : UInt8) (hb : s.data.toList.getD i 0 = b) : Jc s ((a : Int), (i : Int)) =
  if Zr b = false then .ret (-1) else .next (((a * 10 + (b.toNat - 48) : Nat) : Int), ((i + 1 : Nat) : Int)) := by
 simp only [Jc, decide_eq_true (show (i : Int) < (s.size : Int) by omega), cond_true, Int.toNat_natCast, Zl, hb, Qek, Qpo]
 cases hd : Zr b with
 | false => rfl
 | true =>
  have h1 := We hd
  rw [u8sub b hd, Zb (n := (a : Int) * 10) (by omega) (by omega), Zb (by omega) (by omega)]
  simp only [Bool.not_true, cond_false, Bool.true_eq_false, if_false]
  congr 2
theorem Qha (s : ByteArray) : ∀ (m i a : Nat), i + m = s.size → (a + 1) * 10 ^ m ≤ 10000000 → ∀ fuel, m < fuel →
  (runL (Jc s) fuel ((a : Int), (i : Int))).fin (fun r => r) (fun (n, i40) => n) = bif (s.data.toList.drop i).all Zr then (valL a (s.data.toList.drop i) : Int) else -1
 | m, i, a, _, _, 0, hf => absurd hf (Nat.not_lt_zero _)
 | 0, i, a, h, _, fuel + 1, hf => by
  have hl : s.data.toList.length = s.size := Array.length_toList
  have hst : Jc s ((a : Int), (i : Int)) = .done ((a : Int), (i : Int)) := by
   simp only [Jc, decide_eq_false (show ¬ (i : Int) < (s.size : Int) by omega), cond_false]
  rw [Kd _ hst, List.drop_of_length_le (by omega)]
  rfl
 | m + 1, i, a, h, ha, fuel + 1, hf => by
  have hl : s.data.toList.length = s.size := Array.length_toList
  have hb : s.data.toList.drop i = s.data.toList.getD i 0 :: s.data.toList.drop (i + 1) := by
   rw [List.drop_eq_getElem_cons (by omega), List.getD_eq_getElem?_getD, List.getElem?_eq_getElem (by omega)]; rfl
  have hp : 1 ≤ 10 ^ m := Nat.one_le_pow _ _ (by omega)
  have e : (a + 1) * 10 ^ (m + 1) = ((a + 1) * 10) * 10 ^ m := by
   rw [Nat.pow_succ, Nat.mul_comm (10 ^ m) 10, Nat.mul_assoc]
  rw [e] at ha
  have h1 : (a + 1) * 10 ≤ 10000000 := Nat.le_trans (Nat.le_mul_of_pos_right _ hp) ha
  have hst := Qsq s a i (by omega) (by omega) _ rfl
  rw [hb, List.all_cons]
  generalize s.data.toList.getD i 0 = b at hst ⊢
  by_cases hd : Zr b = false
  ·rw [if_pos hd] at hst
   rw [Zf _ hst, hd]; rfl
  ·rw [if_neg hd] at hst
   have hd' : Zr b = true := by simpa using hd
   have hg := We hd'
   rw [Ux _ hst, Qha s m (i + 1) _ (by omega) (Nat.le_trans (Nat.mul_le_mul_right _ (by omega)) ha) fuel (by omega), hd', Bool.true_and]
   rfl
theorem Bv (s : ByteArray) : F34 s = num6 s.data.toList := by
 have hl : s.data.toList.length = s.size := Array.length_toList
 unfold F34 num6
 by_cases h1 : (1 : Int) ≤ (s.size : Int) ∧ (s.size : Int) ≤ 6
 ·rw [decide_eq_true h1, decide_eq_true (show s.data.toList.length ≤ 6 by omega), Bool.and_true, Bool.not_true, cond_false, Zl]
  have hp : (0 + 1) * 10 ^ s.size ≤ 10000000 := by
   have : 10 ^ s.size ≤ 10 ^ 6 := Nat.pow_le_pow_right (by omega) (by omega)
   omega
  have hlp := Qha s s.size 0 0 (by omega) hp (Int.toNat ((s.size : Int) - 0) + 1) (by omega)
  rw [List.drop_zero] at hlp
  have hne : s.data.toList.isEmpty = false := by
   cases hs : s.data.toList with
   | nil => rw [hs] at hl; simp only [List.length_nil] at hl; omega
   | cons b l => rfl
  have e48 := Qlr (s.data.toList.getD 0 0) 48
  have h48 : ((48 : UInt8).toNat : Int) = 48 := rfl
  rw [h48] at e48
  have e0 : (Int.toNat 0) = 0 := rfl
  rw [e0, e48, Ze, hne]
  have eq : (s.data.toList.getD 0 0 == (48 : UInt8)) = decide (s.data.toList.getD 0 0 = 48) := by
   cases h : decide (s.data.toList.getD 0 0 = 48) with
   | true => exact beq_iff_eq.2 (of_decide_eq_true h)
   | false => exact beq_eq_false_iff_ne.2 (of_decide_eq_false h)
  rw [eq]
  have eg : decide ((s.size : Int) > 1) = decide (s.data.toList.length > 1) := by
   by_cases hg : s.size > 1
   ·rw [decide_eq_true (by omega), decide_eq_true (by omega)]
   ·rw [decide_eq_false (by omega), decide_eq_false (by omega)]
  rw [eg]
  refine (congrArg (fun z => bif (bif decide (s.data.toList.length > 1) then decide (s.data.toList.getD 0 0 = 48) else false) then (-1 : Int) else z) hlp).trans ?_
  cases decide (s.data.toList.length > 1) <;> cases decide (s.data.toList.getD 0 0 = 48) <;> cases s.data.toList.all Zr <;> rfl
 ·rw [decide_eq_false h1, Bool.not_false, cond_true, cond_true]
  by_cases h6 : s.data.toList.length ≤ 6
  ·have hz : s.data.toList = [] := List.length_eq_zero_iff.1 (by omega)
   rw [hz]; rfl
  ·rw [decide_eq_false h6, Bool.and_false]; rfl
theorem Qmi : ∀ (k u : Nat), u < 10 ^ (k + 1) → (Lib.decDigits u).length ≤ k + 1
 | 0, u, h => by
  rw [Lib.decDigits_one (by simpa using h)]; exact Nat.le_refl _
 | k + 1, u, h => by
  by_cases hu : u < 10
  ·rw [Lib.decDigits_one hu]; exact Nat.succ_le_succ (Nat.zero_le _)
  ·have h1 : u / 10 < 10 ^ (k + 1) := by
    rw [Nat.pow_succ] at h
    exact Nat.div_lt_of_lt_mul (by rw [Nat.mul_comm]; exact h)
   rw [Lib.decDigits, dif_neg hu, List.length_append]
   exact Nat.succ_le_succ (Qmi k _ h1)
theorem Gf (s : ByteArray) : decN s = -1 ∨ ∃ u : Nat, decN s = (u : Int) ∧ Lib.decDigits u = s.data.toList := by
 unfold decN
 cases ha : Lib.atoiAll s.data.toList with
 | ok v =>
  by_cases h0 : 0 ≤ v
  ·cases he : (Lib.itoa v == s.data.toList) with
   | true =>
    refine .inr ⟨v.toNat, ?_, ?_⟩
    ·simp only [decide_eq_true h0, he, Bool.and_true, cond_true]
     omega
    ·rw [← Qdi v h0]; exact beq_iff_eq.1 he
   | false => refine .inl ?_; simp only [he, Bool.and_false]; rfl
  ·refine .inl ?_; simp only [decide_eq_false h0, Bool.false_and]; rfl
 | _ => exact .inl rfl
theorem Qfz (s : ByteArray) (h : decN s ≤ 999999) : decN s = num6 s.data.toList := by
 have hl : s.data.toList.length = s.size := Array.length_toList
 by_cases hs : s.size ≤ 6
 ·exact Hf s hs
 ·have e : num6 s.data.toList = -1 := by
   unfold num6
   rw [decide_eq_false (show ¬ s.data.toList.length ≤ 6 by omega), Bool.and_false]; rfl
  rw [e]
  rcases Gf s with h1 | ⟨u, h1, h2⟩
  ·exact h1
  ·have h3 := Qmi 5 u (by rw [h1] at h; have : 10 ^ (5 + 1) = 1000000 := rfl; omega)
   rw [h2] at h3
   omega
theorem Qmw (l : List UInt8) : num6 l ≤ 999999 := by
 unfold num6
 cases h : Ze l && decide (l.length ≤ 6) with
 | false => rw [cond_false]; omega
 | true =>
  rw [cond_true]
  rw [Bool.and_eq_true] at h
  have hn := h.1
  unfold Ze at hn
  simp only [Bool.and_eq_true] at hn
  have h1 := Qeb l 0 hn.1.2
  have h2 : 10 ^ l.length ≤ 10 ^ 6 := Nat.pow_le_pow_right (by omega) (of_decide_eq_true h.2)
  omega
def Yb (v : Int) : Bool := decide (0 ≤ v ∧ v ≤ 255)
def addr2 : List (List UInt8) → Int
 | [a, b] => bif Yb (num6 a) && Yb (num6 b) then 256 * num6 a + num6 b else -1
 | _ => -1
def Yk (l : List UInt8) : Int := addr2 (Qx 46 l)
theorem Qcr (x y : Int) (hx : Yb x = true) (hy : Yb y = true) : IntKind.i64.wrap (IntKind.i64.wrap (256 * x) + y) = 256 * x + y := by
 have h1 := of_decide_eq_true hx
 have h2 := of_decide_eq_true hy
 rw [Zb (n := 256 * x) (by omega) (by omega), Zb (by omega) (by omega)]
theorem Mf (s : ByteArray) : F31 s = Yk s.data.toList := by
 have hc : F56 s 46 = (Qx 46 s.data.toList).map mkB := Js s 46
 unfold F31 Yk
 rw [hc]
 simp only [Bv]
 cases Qx 46 s.data.toList with
 | nil => rfl
 | cons a t => cases t with
  | nil => rfl
  | cons b t => cases t with
   | nil =>
    show (bif (bif (!(Yb (num6 a))) then true else (!(Yb (num6 b)))) then (-1) else (IntKind.i64.wrap ((IntKind.i64.wrap (256 * num6 a)) + num6 b))) = bif Yb (num6 a) && Yb (num6 b) then 256 * num6 a + num6 b else -1
    cases ha : Yb (num6 a) <;> cases hb : Yb (num6 b) <;> try rfl
    exact Qcr _ _ ha hb
   | cons c t =>
    have : (((List.map mkB (a :: b :: c :: t)).length : Int) != 2) = true := by
     rw [bne_iff_ne]
     simp only [List.map_cons, List.length_cons, List.length_map]
     omega
    rw [this]; rfl
theorem Qgn (l : List UInt8) : -1 ≤ Yk l ∧ Yk l ≤ 65535 := by
 unfold Yk
 cases Qx 46 l with
 | nil => exact ⟨Int.le_refl _, (show (-1 : Int) ≤ 65535 by omega)⟩
 | cons a t => cases t with
  | nil => exact ⟨Int.le_refl _, (show (-1 : Int) ≤ 65535 by omega)⟩
  | cons b t => cases t with
   | nil =>
    show -1 ≤ (bif Yb (num6 a) && Yb (num6 b) then 256 * num6 a + num6 b else -1) ∧ (bif Yb (num6 a) && Yb (num6 b) then 256 * num6 a + num6 b else -1) ≤ 65535
    cases h : Yb (num6 a) && Yb (num6 b) with
    | false => simp only [cond_false]; omega
    | true =>
     rw [Bool.and_eq_true] at h
     have h1 := of_decide_eq_true h.1
     have h2 := of_decide_eq_true h.2
     simp only [cond_true]; omega
   | cons c t => exact ⟨Int.le_refl _, (show (-1 : Int) ≤ 65535 by omega)⟩
theorem Qxa (s : ByteArray) : Yb (decN s) = Yb (num6 s.data.toList) ∧ (Yb (decN s) = true → decN s = num6 s.data.toList) := by
 by_cases h : decN s ≤ 999999
 ·rw [Qfz s h]; exact ⟨rfl, fun _ => rfl⟩
 ·have h1 : Yb (decN s) = false := decide_eq_false (by omega)
  have h2 : num6 s.data.toList = -1 := by
   rcases Gf s with h3 | ⟨u, h3, h4⟩
   ·omega
   ·have hl : ¬ s.data.toList.length ≤ 6 := fun hle => by
     have hl : s.data.toList.length = s.size := Array.length_toList
     have := Hf s (by omega)
     have := Qmw s.data.toList
     omega
    unfold num6
    rw [decide_eq_false hl, Bool.and_false]; rfl
  rw [h1, h2]
  exact ⟨rfl, fun h => by cases h⟩
theorem Qru : ∀ l : List UInt8, 46 ∈ l → Ze l = false := by
 intro l hm
 cases h : Ze l with
 | false => rfl
 | true =>
  unfold Ze at h
  simp only [Bool.and_eq_true] at h
  have := We (List.all_eq_true.1 h.1.2 _ hm)
  have e : (46 : UInt8).toNat = 46 := rfl
  omega
theorem Qns {l : List UInt8} (h : 46 ∈ l) : num6 l = -1 := by
 unfold num6
 rw [Qru l h, Bool.false_and]; rfl
theorem Mg (s : ByteArray) : F47 s = Yk s.data.toList := by
 have e209 : ∀ t : ByteArray, F67 t = decN t := fun _ => rfl
 have e87 : ∀ t u : ByteArray, F66 t u = cut3 t u := fun _ _ => rfl
 unfold F47 Yk
 simp only [e209, e87]
 rcases Be s 46 with ⟨h1, h2⟩ | ⟨a, b, h1, h2, h3⟩
 ·rw [h2, Us h1]; rfl
 ·rw [h3, h1, Uz b h2]
  show (bif (bif (!true) then true else (!(Yb (decN (mkB a))))) then true else (!(Yb (decN (mkB b))))) |> fun z => (bif z then (-1) else (IntKind.i64.wrap ((IntKind.i64.wrap (256 * decN (mkB a))) + decN (mkB b)))) = addr2 (a :: Qx 46 b)
  have da := Qxa (mkB a)
  have db := Qxa (mkB b)
  rw [Tb] at da db
  rw [da.1, db.1]
  by_cases hb : (46 : UInt8) ∈ b
  ·have hn : num6 b = -1 := Qns hb
   have e2 : Yb (num6 b) = false := by rw [hn]; rfl
   rw [e2]
   have e3 : ∃ x y t, Qx 46 b = x :: y :: t := by
    rcases Kk 46 b with ⟨_, h⟩ | ⟨x, y, hx, hx2, _⟩
    ·exact absurd hb h
    ·rw [hx, Uz y hx2]
     cases hs : Qx 46 y with
     | nil =>
      cases y with
      | nil => cases hs
      | cons c y =>
       rw [Qx] at hs
       split at hs
       ·cases hs
       ·split at hs <;> cases hs
     | cons p t => exact ⟨_, _, _, rfl⟩
   obtain ⟨x, y, t, e3⟩ := e3
   rw [e3]
   cases Yb (num6 a) <;> rfl
  ·rw [Us hb]
   show _ = bif Yb (num6 a) && Yb (num6 b) then 256 * num6 a + num6 b else -1
   cases ha : Yb (num6 a) <;> cases hb2 : Yb (num6 b) <;> try rfl
   have h4 := da.2 (by rw [da.1]; exact ha)
   have h5 := db.2 (by rw [db.1]; exact hb2)
   rw [h4, h5]
   exact Qcr _ _ ha hb2
theorem Hx (s : ByteArray) : F47 s = F31 s := (Mg s).trans (Mf s).symm
end Go.Proofs.YtmoodkjkecjeaabGreatDoor
