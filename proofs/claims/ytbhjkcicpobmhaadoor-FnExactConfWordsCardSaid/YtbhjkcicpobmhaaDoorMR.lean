/-
  Plain tools: what loops over a range come to.
-/
import Derived.Test.YtbhjkcicpobmhaaDoorMN
namespace Go.Proofs.YtbhjkcicpobmhaaDoor
open Go.RowKit

/-- a body for each number from k on, m of them: it goes on with a new state, or out with a result -/
def forL {σ ρ : Type} (body : Nat → σ → Lp σ ρ) : Nat → Nat → σ → Lp σ ρ
  | 0, _, s => .done s
  | m + 1, k, s => match body k s with
    | .next s' => forL body m (k + 1) s'
    | .done s' => .done s'
    | .ret r => .ret r

theorem runL_for {σ ρ τ : Type} {step : τ → Lp τ ρ} {body : Nat → σ → Lp σ ρ} (emb : Nat → σ → τ) (n : Nat)
    (h1 : ∀ k s, k < n → (∀ s', body k s = .next s' → step (emb k s) = .next (emb (k + 1) s')) ∧ (∀ r, body k s = .ret r → step (emb k s) = .ret r) ∧ (∀ s', body k s ≠ .done s'))
    (h2 : ∀ s, step (emb n s) = .done (emb n s)) : ∀ (m k : Nat) (s : σ), k + m = n → ∀ M, m < M → runL step M (emb k s) = (forL body m k s).fin Lp.ret (fun s' => .done (emb n s'))
  | 0, k, s, hk, M, hM => by
    obtain rfl : k = n := by omega
    obtain ⟨M, rfl⟩ := prev hM
    simp [runL, h2, forL, Lp.fin]
  | m + 1, k, s, hk, M, hM => by
    obtain ⟨M, rfl⟩ := prev hM
    obtain ⟨a, b, c⟩ := h1 k s (by omega)
    simp only [runL, forL]
    cases hb : body k s with
    | next s' =>
      rw [a s' hb]
      exact runL_for emb n h1 h2 m (k + 1) s' (by omega) M (by omega)
    | done s' => exact absurd hb (c s')
    | ret r => rw [b r hb]; rfl
where prev {a M : Nat} (h : a < M) : ∃ M', M = M' + 1 := ⟨M - 1, by omega⟩

/-- a loop over a range, by what holds at each head -/
theorem runL_rule {σ ρ τ : Type} {step : τ → Lp τ ρ} (emb : Nat → σ → τ) (n : Nat) (I : Nat → σ → Prop) (R : ρ → Prop)
    (h1 : ∀ k s, k < n → I k s → (∃ s', step (emb k s) = .next (emb (k + 1) s') ∧ I (k + 1) s') ∨ ∃ r, step (emb k s) = .ret r ∧ R r)
    (h2 : ∀ s, I n s → step (emb n s) = .done (emb n s)) : ∀ (m k : Nat) (s : σ), k + m = n → I k s → ∀ M, m < M → (∃ s', runL step M (emb k s) = .done (emb n s') ∧ I n s') ∨ ∃ r, runL step M (emb k s) = .ret r ∧ R r
  | 0, k, s, hk, hI, M, hM => by
    obtain rfl : k = n := by omega
    obtain ⟨M, rfl⟩ : ∃ M', M = M' + 1 := ⟨M - 1, by omega⟩
    exact .inl ⟨s, by simp [runL, h2 s hI], hI⟩
  | m + 1, k, s, hk, hI, M, hM => by
    obtain ⟨M, rfl⟩ : ∃ M', M = M' + 1 := ⟨M - 1, by omega⟩
    rcases h1 k s (by omega) hI with ⟨s', e, hI'⟩ | ⟨r, e, hr⟩
    · have := runL_rule emb n I R h1 h2 m (k + 1) s' (by omega) hI' M (by omega)
      simp only [runL, e]
      exact this
    · exact .inr ⟨r, by simp [runL, e], hr⟩

end Go.Proofs.YtbhjkcicpobmhaaDoor
