/-
  The machine, twenty-second part: what the written texts lean on.
-/
import Derived.Test.YtbhjkcicpobmhaaDoorML
namespace Go.Proofs.YtbhjkcicpobmhaaDoor
open Go.RowKit

/-- what one round of a loop comes to: another round, the loop's end, the function's end -/
inductive Lp (σ ρ : Type) where
  | next (s : σ)
  | done (s : σ)
  | ret (r : ρ)

/-- at most so many rounds -/
def runL {σ ρ : Type} (step : σ → Lp σ ρ) : Nat → σ → Lp σ ρ
  | 0, s => .next s
  | m + 1, s => match step s with
    | .next s' => runL step m s'
    | .done s' => .done s'
    | .ret r => .ret r

def Lp.fin {σ ρ τ : Type} (x : Lp σ ρ) (f : ρ → τ) (g : σ → τ) : τ := match x with
  | .ret r => f r
  | .done s => g s
  | .next s => g s

theorem runL_next {σ ρ : Type} {step : σ → Lp σ ρ} {m : Nat} {s s' : σ} {X : Lp σ ρ} (h : runL step (m + 1) s = X) (e : Lp.next s' = step s) : runL step m s' = X := by
  rw [← h]; simp [runL, ← e]
theorem runL_done {σ ρ : Type} {step : σ → Lp σ ρ} {m : Nat} {s s' : σ} {X : Lp σ ρ} (h : runL step (m + 1) s = X) (e : Lp.done s' = step s) : X = .done s' := by
  rw [← h]; simp [runL, ← e]
theorem runL_ret {σ ρ : Type} {step : σ → Lp σ ρ} {m : Nat} {s : σ} {r : ρ} {X : Lp σ ρ} (h : runL step (m + 1) s = X) (e : Lp.ret r = step s) : X = .ret r := by
  rw [← h]; simp [runL, ← e]
theorem finD {σ ρ τ : Type} {x : Lp σ ρ} {f : ρ → τ} {g : σ → τ} {s : σ} {v : τ} (h : x = .done s) (e : v = g s) : v = x.fin f g := by rw [h]; exact e
theorem finR {σ ρ τ : Type} {x : Lp σ ρ} {f : ρ → τ} {g : σ → τ} {r : ρ} {v : τ} (h : x = .ret r) (e : v = f r) : v = x.fin f g := by rw [h]; exact e
theorem condT {α : Type} {c : Bool} {a b v : α} (h : c = true) (e : v = a) : v = bif c then a else b := by rw [h]; exact e
theorem condF {α : Type} {c : Bool} {a b v : α} (h : c = false) (e : v = b) : v = bif c then a else b := by rw [h]; exact e
theorem hd1 {σ ρ : Type} {step : σ → Lp σ ρ} {m k : Nat} {s : σ} {X : Lp σ ρ} (h : runL step m s = X) (h' : k < m) : runL step (m - 1 + 1) s = X := by
  rw [Nat.sub_add_cancel (by omega)]; exact h
theorem hd2 {m k : Nat} (h : k < m) : k < m - 1 + 1 := by omega
theorem hd3 {m k : Nat} (h : k < m) : m - 1 < m := by omega

/-- what holds along a loop -/
def Lp.all {σ ρ : Type} (I : σ → Prop) (J : ρ → Prop) : Lp σ ρ → Prop
  | .next s => I s
  | .done s => I s
  | .ret r => J r
theorem runL_inv {σ ρ : Type} {step : σ → Lp σ ρ} (I : σ → Prop) (J : ρ → Prop) (h : ∀ s, I s → (step s).all I J) : ∀ (m : Nat) (s : σ), I s → (runL step m s).all I J
  | 0, s, hs => hs
  | m + 1, s, hs => by
    have h1 := h s hs
    simp only [runL]
    cases e : step s with
    | next s' => rw [e] at h1; exact runL_inv I J h m s' h1
    | done s' => rw [e] at h1; exact h1
    | ret r => rw [e] at h1; exact h1
theorem fin_inv {σ ρ τ : Type} {x : Lp σ ρ} {f : ρ → τ} {g : σ → τ} {I : σ → Prop} {J : ρ → Prop} {K : τ → Prop} (h : x.all I J) (hf : ∀ r, J r → K (f r)) (hg : ∀ s, I s → K (g s)) : K (x.fin f g) := by
  cases x with
  | next s => exact hg s h
  | done s => exact hg s h
  | ret r => exact hf r h
theorem getD_rep {α : Type} [Inhabited α] (n : Nat) (x : α) (h : x = default) (k : Nat) : (List.replicate n x).getD k default = x := by
  rw [List.getD_eq_getElem?_getD, List.getElem?_replicate]
  split
  · rfl
  · exact h.symm

theorem notET {b : Bool} (h : (!b) = true) : b = false := by simpa using h
theorem notEF {b : Bool} (h : (!b) = false) : b = true := by simpa using h
theorem beqF {a b : Int} (h : (a == b) = false) : ¬ a = b := by simpa using h
theorem bneT {a b : Int} (h : (a != b) = true) : ¬ a = b := by simpa using h
theorem bneF {a b : Int} (h : (a != b) = false) : a = b := by simpa using h
theorem andT1 {c x : Bool} (h : (bif c then x else false) = true) : c = true := by cases c <;> simp_all
theorem andT2 {c x : Bool} (h : (bif c then x else false) = true) : x = true := by cases c <;> simp_all
theorem orF1 {c x : Bool} (h : (bif c then true else x) = false) : c = false := by cases c <;> simp_all
theorem orF2 {c x : Bool} (h : (bif c then true else x) = false) : x = false := by cases c <;> simp_all

theorem lens : (∀ {α : Type} (l : List α) (i : Nat) (x : α), (l.set i x).length = l.length) ∧ (∀ {α : Type} (l m : List α), (l ++ m).length = l.length + m.length) ∧ (∀ {α : Type} (x : α) (l : List α), (x :: l).length = l.length + 1) ∧ (∀ {α : Type}, ([] : List α).length = 0) ∧
    (∀ {α : Type} (n : Nat) (x : α), (List.replicate n x).length = n) ∧ (∀ {α : Type} (n : Nat) (l : List α), (l.take n).length = min n l.length) ∧ (∀ {α : Type} (n : Nat) (l : List α), (l.drop n).length = l.length - n) ∧ (∀ {α β : Type} (f : α → β) (l : List α), (l.map f).length = l.length) :=
  ⟨by simp, by simp, by simp, by simp, by simp, by simp, by simp, by simp⟩

def eInt (x : Int) : List Dat := [.v (.int .i64 x)]
def eByte (x : Int) : List Dat := [.v (.int .u8 (x % 256))]
def eBool (x : Bool) : List Dat := [.v (.bool x)]
def eStr (x : ByteArray) : List Dat := [.v (.string x)]
def eL {α : Type} [Inhabited α] (sz : Nat) (enc : α → List Dat) (xs : List α) : List Dat := [.l sz enc xs]

/-- bytes as a string -/
def strOfB (xs : List Int) : ByteArray := strOfNums (xs.map fun x => x % 256)
theorem strOfB_size (xs : List Int) : (strOfB xs).size = xs.length := by simp [strOfB, strOfNums_size]
theorem size_app (a b : ByteArray) : (a ++ b).size = a.size + b.size := by simp
theorem Imp.u8 {a b : Int} (h : a = b) : Imp (.v (.int .u8 a)) (.v (.int .u8 b)) := Imp.of_eq (by rw [h])
theorem u8a (b : UInt8) : (b.toNat : Int) = (b.toNat : Int) % 256 := by have := b.toNat_lt; omega
theorem u8m (x : Int) : x % 256 = x % 256 % 256 := by omega
theorem u8w (x : Int) : IntKind.u8.wrap x = IntKind.u8.wrap x % 256 := by
  have h1 : IntKind.u8.wrap x = x % 256 := by
    simp [IntKind.wrap, IntKind.signed, IntKind.bits]
  rw [h1]; omega
theorem sz0 : (⟨#[]⟩ : ByteArray).size = 0 := rfl
end Go.Proofs.YtbhjkcicpobmhaaDoor
