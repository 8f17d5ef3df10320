/-
  The machine: structs of plain cells.
-/
import Derived.Test.YtbhjkcicpobmhaaDoorMT
namespace Go.Proofs.YtbhjkcicpobmhaaDoor
open Go.RowKit
set_option linter.unusedVariables false
set_option linter.unusedSimpArgs false

def datV : Dat → Value
  | .v x => x
  | _ => default
/-- a type of cells that are known values -/
def Plain {α : Type} (k : Nat) (e : α → List Dat) : Prop := ∀ x, (e x).length = k ∧ ∀ d ∈ e x, ∃ v, d = .v v ∧ v.oneCell' = true
def encV {α : Type} (e : α → List Dat) (x : α) : List Value := (e x).map datV
theorem Plain.len {α : Type} {k : Nat} {e : α → List Dat} (h : Plain k e) (x : α) : (encV e x).length = k := by rw [encV, List.length_map, (h x).1]
theorem Plain.one {α : Type} {k : Nat} {e : α → List Dat} (h : Plain k e) (x : α) : ∀ v ∈ encV e x, v.oneCell' = true := fun v hv => by
  obtain ⟨d, hd, rfl⟩ := List.mem_map.1 hv
  obtain ⟨v, rfl, h1⟩ := (h x).2 d hd
  exact h1
theorem rd_plain {S : Nat → Prop} {w : World} : ∀ {ds : List Dat} {vs : List Value}, (∀ d ∈ ds, ∃ v, d = .v v ∧ v.oneCell' = true) → (RdVs S w ds vs ↔ vs = ds.map datV)
  | [], vs, _ => ⟨fun h => h, fun h => h⟩
  | d :: ds, vs, h => by
    obtain ⟨v, rfl, hv⟩ := h d List.mem_cons_self
    have ih := fun us => rd_plain (S := S) (w := w) (ds := ds) (vs := us) fun d hd => h d (List.mem_cons_of_mem _ hd)
    constructor
    · rintro ⟨u, us, rfl, ⟨rfl, _⟩, h2⟩
      rw [(ih us).1 h2]; rfl
    · rintro rfl
      exact ⟨v, _, rfl, ⟨rfl, hv⟩, (ih _).2 rfl⟩
theorem ow_plain {w : World} : ∀ {ds : List Dat} {vs : List Value} {fp : List Nat}, (∀ d ∈ ds, ∃ v, d = .v v ∧ v.oneCell' = true) → (OwVs w ds vs fp ↔ vs = ds.map datV ∧ fp = [])
  | [], vs, fp, _ => ⟨fun h => h, fun h => h⟩
  | d :: ds, vs, fp, h => by
    obtain ⟨v, rfl, hv⟩ := h d List.mem_cons_self
    have ih := fun us f => ow_plain (w := w) (ds := ds) (vs := us) (fp := f) fun d hd => h d (List.mem_cons_of_mem _ hd)
    constructor
    · rintro ⟨u, us, f, g, rfl, ⟨rfl, _, rfl⟩, h2, rfl, _⟩
      obtain ⟨e1, e2⟩ := (ih us _).1 h2
      rw [e1, e2]; exact ⟨rfl, rfl⟩
    · rintro ⟨rfl, rfl⟩
      exact ⟨v, _, [], [], rfl, ⟨rfl, hv, rfl⟩, (ih _ _).2 ⟨rfl, rfl⟩, rfl, List.nodup_nil⟩


end Go.Proofs.YtbhjkcicpobmhaaDoor
