/- Plain laws: fresh routes, entries of routes, tables that are the same. -/
import Derived.Test.YtjcgnlpimefhpaaVHK0
namespace Go.Proofs.Ytjcgnlpimefhpaa
open Go.RowKit
set_option maxRecDepth 100000
set_option linter.unusedVariables false
set_option linter.unusedSimpArgs false
theorem fresh_loop {ρ : Type} (p : HelloRoute → Bool) (a : List HelloRoute) (step : List HelloRoute × Int → Lp (List HelloRoute × Int) ρ)
    (hs : ∀ (k : Nat) xs, k < a.length → step (xs, (k : Int)) = .next (xs ++ (if p (a.getD k default) then [a.getD k default] else []), (k : Int) + 1)) (he : ∀ xs, step (xs, (a.length : Int)) = .done (xs, (a.length : Int))) :
    runL step ((Int.toNat ((a.length : Int) - 0)) + 1) ([], 0) = .done (a.filter p, (a.length : Int)) := by
  have h := runL_rule (step := step) (fun (k : Nat) (s : List HelloRoute) => (s, (k : Int))) a.length (fun k s => s = (a.take k).filter p) (fun _ => False)
    (fun k s hk hI => .inl ⟨_, by rw [hs k s hk]; rfl, by rw [hI, filter_take_next p a hk]⟩)
    (fun s _ => he s) a.length 0 [] (by omega) rfl (Int.toNat ((a.length : Int) - 0) + 1) (by omega)
  rcases h with ⟨s, h, hI⟩ | ⟨_, _, h⟩
  · have h' : runL step (Int.toNat ((a.length : Int) - 0) + 1) ([], 0) = _ := h
    rw [h', hI, List.take_length]
  · exact h.elim
theorem as185 (list : List HelloRoute) : F185 list = list.filter (fun r => !r.Stale) := by
  unfold F185
  rw [fresh_loop (fun r => !r.Stale) list _ (fun k xs hk => by
    simp only [F185_s0, ltD hk, cond_true, nn]
    cases (list.getD k default).Stale <;> simp) (fun xs => by simp [F185_s0])]
  rfl
theorem as182 (list : List HelloRoute) : F182 list = list.map (fun r => r.Entry) := by
  unfold F182
  rw [entries_loop list _ (fun k xs hk => by simp only [F182_s0, ltD hk, cond_true, nn]) (fun xs => by simp [F182_s0])]
  rfl
theorem ents_eq (l : List HelloRoute) : F106 l = l.map (fun r => r.Entry) := by
  unfold F106
  rw [entries_loop l _ (fun k xs hk => by simp only [F106_s0, ltD hk, cond_true, nn]) (fun xs => by simp [F106_s0])]
  rfl
theorem as186 (heard : List HelloRoute) : F186 heard = (heard.filter (fun r => !r.Stale)).map (fun r => r.Entry) := by
  unfold F186
  rw [ents_eq]
  rfl
/-- entries that are the same -/
def eqE (x y : HelloEntry) : Bool := (x.Addr == y.Addr) && ((x.Len == y.Len) && ((x.Cost == y.Cost) && (x.Label == y.Label)))
theorem eqE_iff {x y : HelloEntry} : eqE x y = true ↔ x = y := by
  unfold eqE
  obtain ⟨a, b, c, d⟩ := x
  obtain ⟨a', b', c', d'⟩ := y
  simp only [Bool.and_eq_true, beq_iff_eq, HelloEntry.mk.injEq]
theorem ext_getD {α : Type} [Inhabited α] {a b : List α} (h : a.length = b.length) (h2 : ∀ k, k < a.length → a.getD k default = b.getD k default) : a = b :=
  List.ext_getElem h fun k h3 h4 => by
    have := h2 k h3
    rwa [getD_lt a h3, getD_lt b h4] at this
theorem tbl_loop (a b : List HelloEntry) (step : Int → Lp Int Bool)
    (hs : ∀ k : Nat, k < a.length → step (k : Int) = bif !(eqE (a.getD k default) (b.getD k default)) then .ret false else .next ((k : Int) + 1)) (he : step (a.length : Int) = .done (a.length : Int)) :
    (bif ((a.length : Int) != (b.length : Int)) then false else (runL step ((Int.toNat ((a.length : Int) - 0)) + 1) 0).fin (fun r => r) (fun _ => true)) = decide (a = b) := by
  rw [allB (fun k => !(eqE (a.getD k default) (b.getD k default))) a.length step hs he]
  by_cases h : a.length = b.length
  · have hb : ((a.length : Int) != (b.length : Int)) = false := by simp [h]
    rw [hb, cond_false, Bool.and_true, Bool.eq_iff_iff, allB_iff, decide_eq_true_eq]
    constructor
    · exact fun hk => ext_getD h fun k hk' => eqE_iff.1 (by simpa using hk k hk')
    · rintro rfl k _
      rw [eqE_iff.2 rfl]; rfl
  · have hb : ((a.length : Int) != (b.length : Int)) = true := by
      have : ¬ (a.length : Int) = (b.length : Int) := by omega
      simpa using this
    rw [hb, cond_true]
    exact (decide_eq_false fun e => h (by rw [e])).symm
theorem as181 (a b : List HelloEntry) : F181 a b = decide (a = b) := by
  unfold F181
  exact tbl_loop a b _ (fun k hk => by simp only [F181_s0, ltD hk, cond_true, nn, eqE]) (by simp [F181_s0])
theorem as117 (s1 s2 : List HelloEntry) : F117 s1 s2 = decide (s1 = s2) := by
  unfold F117
  exact tbl_loop s1 s2 _ (fun k hk => by simp only [F117_s0, ltD hk, cond_true, nn, eqE]) (by simp [F117_s0])
theorem fst_eq (l : List HelloRoute) : F180 l = idxI (fun r => r.Stale) l := by
  unfold F180
  exact idx_loop (fun r => r.Stale) l (F180_s0 l) (fun _ => rfl)
theorem fst_ge (l : List HelloRoute) : decide (F180 l ≥ 0) = anySt l := by
  rw [fst_eq, any_idx]; rfl
theorem fst_lt (l : List HelloRoute) : decide (F180 l < 0) = !(anySt l) := by
  rw [← fst_ge, ← decide_not, decide_eq_decide]; omega

end Go.Proofs.Ytjcgnlpimefhpaa
