/-
  The machine, twenty-third part: laws: from the row's reading of the arguments.
-/
import Derived.Test.YtbhjkcicpobmhaaDoorMN
import Derived.Test.YtbhjkcicpobmhaaDoorK3
namespace Go.Proofs.YtbhjkcicpobmhaaDoor
open Go.RowKit Go.ChangeShapes Go.WideShapes Go.ChangeAt

def rpD {α : Type} (enc : α → List Dat) (sz : Nat) (hl : ∀ x, (enc x).length = sz) : Rp α where
  sz := sz
  rd w cs x := RdVs (· < w.heap.size) w (enc x) cs
  mono e h := RdVs.mono (fun b hb => ⟨Nat.lt_of_lt_of_le hb e.size, e.block b hb⟩) _ _ h
  own w cs x fp := OwVs w (enc x) cs fp
  own_rd h := RdVs.mono (fun b hb => ⟨OwVs.lt _ _ _ h b hb, rfl⟩) _ _ (OwVs.rd _ _ _ h)
  own_keep h hk := OwVs.keep _ _ _ hk h
  own_lt h := OwVs.lt _ _ _ h
  own_nd h := OwVs.nd h
  rd_len h := by rw [RdVs.len h]; exact hl _
  own_one h := OwVs.one h

/-- what reads by the row reads as data -/
def OpD {α : Type} (P : Program) (t : TypeId) (enc : α → List Dat) : Prop :=
  ∀ (H : Type) (en : TypeId × Value → H) (W : World) (fuel : Nat) (cs : List Value) (y : DataW H × List MemPlace), DataW.trod en P W 0 (fun _ => true) true fuel t cs = some y → ∃ x, RdVs (· < W.heap.size) W (enc x) cs

theorem RdVs.app {S : Nat → Prop} {w : World} : ∀ {as bs : List Dat} {us vs : List Value}, RdVs S w as us → RdVs S w bs vs → RdVs S w (as ++ bs) (us ++ vs)
  | [], _, us, vs, h, h' => by
    have : us = [] := h
    subst this
    exact h'
  | a :: as, bs, us, vs, h, h' => by
    obtain ⟨u, us', rfl, h1, h2⟩ := h
    exact ⟨u, us' ++ vs, rfl, h1, RdVs.app h2 h'⟩

section
variable {P : Program} {t : TypeId}
theorem OpD.int (hu : P.underlying t = some (.int .i64)) : OpD P t eInt := fun H e W f cs y h => by
  obtain ⟨x, hx⟩ := Opens.int hu H e W f cs y h
  have hx : cs = [.int .i64 x] := hx
  subst hx
  exact ⟨x, _, _, rfl, ⟨rfl, rfl⟩, rfl⟩
theorem OpD.byte (hu : P.underlying t = some (.int .u8)) : OpD P t eByte := fun H e W f cs y h => by
  obtain ⟨x, hx⟩ := Opens.byte hu H e W f cs y h
  have hx : cs = [.int .u8 (x.toNat : Int)] := hx
  subst hx
  have hl := x.toNat_lt
  refine ⟨(x.toNat : Int), _, _, rfl, ⟨?_, rfl⟩, rfl⟩
  have : (x.toNat : Int) % 256 = (x.toNat : Int) := by omega
  rw [this]
theorem OpD.bool (hu : P.underlying t = some .bool) : OpD P t eBool := fun H e W f cs y h => by
  obtain ⟨x, hx⟩ := Opens.bool hu H e W f cs y h
  have hx : cs = [.bool x] := hx
  subst hx
  exact ⟨x, _, _, rfl, ⟨rfl, rfl⟩, rfl⟩
theorem OpD.str (hu : P.underlying t = some .string) : OpD P t eStr := fun H e W f cs y h => by
  obtain ⟨x, hx⟩ := Opens.str hu H e W f cs y h
  have hx : cs = [.string x] := hx
  subst hx
  exact ⟨x, _, _, rfl, ⟨rfl, rfl⟩, rfl⟩
theorem OpD.slice {α : Type} [Inhabited α] {e : TypeId} {enc : α → List Dat} (sz : Nat) (hu : P.underlying t = some (.slice e)) (ho : OpD P e enc) (hl : ∀ x, (enc x).length = sz) (hsz : P.cellsOf e = sz) (hpos : 0 < sz) : OpD P t (fun xs : List α => [.l sz enc xs]) := fun H en W f cs y h => by
  obtain ⟨xs, a, c, rfl, h1, h2, h3⟩ := Opens.slice (r := rpD enc sz hl) hu ho hsz hpos H en W f cs y h
  exact ⟨xs, _, [], rfl, ⟨a, c, rfl, h1, h2, fun i x hx => h3 i x hx⟩, rfl⟩
end

theorem GP.gok {W : World} (h : GP W) : GOK (· < W.heap.size) W := ⟨h, fun b hb => by
  have key : ∀ e, W.cell? ⟨b, 0, none⟩ = some e → b < W.heap.size := fun e he => by
    rcases Nat.lt_or_ge b W.heap.size with h1 | h1
    · exact h1
    · simp [World.cell?, Array.getElem?_eq_none h1] at he
  rcases List.mem_append.1 hb with hb | hb
  · rcases List.mem_append.1 hb with hb | hb
    · obtain ⟨e, he, _⟩ := h.1 b hb; exact key e he
    · obtain ⟨m, he⟩ := h.2.1 b hb; exact key _ he
  · obtain ⟨q, hq, rfl⟩ := List.mem_map.1 hb
    obtain ⟨T, fz, he⟩ := h.2.2 q hq
    exact (Array.getElem?_eq_some_iff.1 he).1⟩
/-- a law's function, called: its arguments are only read -/
theorem law_call {P : Program} {f : FuncId} {sp : Spec} {D : Bool} (h : sp.ok P f D) (hp : sp.pre) {W : World} {vs : List Value} {x : Value} (hG : GP W) (ha : ArgsOK P (· < W.heap.size) W sp.args vs []) (hr : sp.res = .v x) (_ : (sp.args.all fun a => match a with | .r _ => true | .vl _ _ => true | _ => false) = true) :
    Calls P f vs.toArray W fun e W' => e = .returned x ∧ Below W.heap.size W W' := by
  refine Calls.mono (h hp _ W vs [] (fun b hb => ⟨hb, fun h => by cases h⟩) hG.gok ha) fun e W' ⟨rv, fr, fb, h1, h2, _, _, _, h6⟩ => ?_
  rw [hr] at h2
  obtain ⟨rfl, _, _⟩ := h2
  exact ⟨h1, ⟨h6.os, h6.tape, h6.output, h6.size, fun k hk => h6.block k hk fun hk => by cases hk⟩⟩

end Go.Proofs.YtbhjkcicpobmhaaDoor
