/-
  The machine, part nought: package-level variables that the library's functions read.
-/
import Derived.Test.YtbhjkcicpobmhaaDoorK2
namespace Go.Proofs.YtbhjkcicpobmhaaDoor
open Go.RowKit

/-- variables that hold an error, and such as hold a number: their blocks -/
def GBe : List Nat := []
def GBi : List Nat := []
  ++ [0]
/-- tables -/
def GBt : List (Nat × Array Value) := []

/-- what they hold is of their kind -/
def GP (w : World) : Prop := (∀ b ∈ GBe, ∃ e, w.cell? ⟨b, 0, none⟩ = some e ∧ (e = .nilIface ∨ ∃ te pe, e = .iface te pe)) ∧ (∀ b ∈ GBi, ∃ m, w.cell? ⟨b, 0, none⟩ = some (.int .i64 m)) ∧ ∀ q ∈ GBt, ∃ T fz, w.heap[q.1]? = some (.cells q.2 T fz)
/-- and they lie in memory that does not change -/
def GOK (S : Nat → Prop) (w : World) : Prop := GP w ∧ ∀ b ∈ GBe ++ GBi ++ GBt.map (·.1), S b

theorem GOK.keep {S S' : Nat → Prop} {w w' : World} (h : GOK S w) (hs : ∀ b, S b → S' b ∧ w'.heap[b]? = w.heap[b]?) : GOK S' w' := by
  obtain ⟨⟨h1, h2, h4⟩, h3⟩ := h
  have key : ∀ b ∈ GBe ++ GBi ++ GBt.map (·.1), w'.heap[b]? = w.heap[b]? := fun b hb => (hs b (h3 b hb)).2
  have key' : ∀ b ∈ GBe ++ GBi ++ GBt.map (·.1), w'.cell? ⟨b, 0, none⟩ = w.cell? ⟨b, 0, none⟩ := fun b hb => by
    simp [World.cell?, key b hb]
  refine ⟨⟨fun b hb => ?_, fun b hb => ?_, fun q hq => ?_⟩, fun b hb => (hs b (h3 b hb)).1⟩
  · rw [key' b (List.mem_append_left _ (List.mem_append_left _ hb))]; exact h1 b hb
  · rw [key' b (List.mem_append_left _ (List.mem_append_right _ hb))]; exact h2 b hb
  · rw [key q.1 (List.mem_append_right _ (List.mem_map.2 ⟨q, hq, rfl⟩))]; exact h4 q hq
theorem GOK.mono {S S' : Nat → Prop} {w : World} (h : GOK S w) (hs : ∀ b, S b → S' b) : GOK S' w := h.keep fun b hb => ⟨hs b hb, rfl⟩

end Go.Proofs.YtbhjkcicpobmhaaDoor
