/- Plain lemmas: what the walks of LabNetOk and LabLinked compute is the same in the program and in the reference. -/
import Derived.Test.YtfehpdcfndhniaaV2
namespace Go.Proofs.Ytfehpdcfndhniaa
open Go.RowKit

theorem sz_LabNet {n : LabNet} (h : 0 ≤ szR (szN_LabNet n) 1048576) : szN_LabNet n ≤ 1048576 := by
  have := szR_cases (szN_LabNet n) 1048576; omega

theorem scan1 {ρ τ : Type} {step : Nat → Lp Nat ρ} {n m : Nat} {r0 : ρ} {f : ρ → τ} {g : Nat → τ} {c : Nat → Bool} (hm : m = n + 1) (h : ∀ k, step k = bif decide ((k : Int) < (n : Int)) then (bif c k then .ret r0 else .next (k + 1)) else .done k) :
    Lp.fin (runL step m 0) f g = bif allN n (fun k => !c k) then g n else f r0 := by
  refine scan_all _ hm (fun k hk => ?_) (fun k hk => ?_)
  · rw [h k, show decide ((k : Int) < (n : Int)) = true from by simpa using hk, cond_true]
    cases c k <;> rfl
  · rw [h k, show decide ((k : Int) < (n : Int)) = false from by simpa using hk, cond_false]
theorem scan2 {ρ τ : Type} {step : Nat → Lp Nat ρ} {n m : Nat} {r0 : ρ} {f : ρ → τ} {g : Nat → τ} {c d : Nat → Bool} (hm : m = n + 1) (h : ∀ k, step k = bif decide ((k : Int) < (n : Int)) then (bif c k then .ret r0 else bif d k then .ret r0 else .next (k + 1)) else .done k) :
    Lp.fin (runL step m 0) f g = bif allN n (fun k => !(c k || d k)) then g n else f r0 := by
  refine scan1 hm (fun k => ?_)
  rw [h k]
  cases c k <;> cases d k <;> rfl

/-- link k of a net is in order -/
def linkGood (n : LabNet) (k : Nat) : Bool :=
  !(((decide (((n.Links.getD k default).A) < (0 : Int))) || ((decide (((n.Links.getD k default).A) ≥ ((n.Links.getD k default).B))) || (decide (((n.Links.getD k default).B) ≥ (n.Boxes.length : Int))))) ||
    ((decide ((k : Int) > (0 : Int))) && ((decide (((n.Links.getD (Int.toNat ((k : Int) - 1)) default).A) > ((n.Links.getD k default).A))) || ((((n.Links.getD (Int.toNat ((k : Int) - 1)) default).A) == ((n.Links.getD k default).A)) && (decide (((n.Links.getD (Int.toNat ((k : Int) - 1)) default).B) ≥ ((n.Links.getD k default).B)))))))

theorem links_all (n : LabNet) : ∃ p : Nat → Bool, f_impl_LabNet__linksOk n = (allN n.Links.length p && decide ((n.Links.length : Int) ≤ 14)) ∧ f_spec_l71Frame n = ((within n.Boxes.length 1 8 && decide ((n.Links.length : Int) ≤ 14)) && allN n.Links.length p) ∧
    ∀ k, k < n.Links.length → p k = true → 0 ≤ (n.Links.getD k default).A ∧ (n.Links.getD k default).A < (n.Links.getD k default).B := by
  refine ⟨linkGood n, ?_, ?_, ?_⟩
  · unfold f_impl_LabNet__linksOk
    rw [scan2 (step := f_impl_LabNet__linksOk_s0 n) (n := n.Links.length) (by omega) (fun k => rfl)]
    rw [allN_congr (q := linkGood n) fun k hk => ?_]
    · cases allN n.Links.length (linkGood n) <;> rfl
    · unfold linkGood
      rw [Bool.eq_iff_iff]
      simp only [before, bs]
      omega
  · unfold f_spec_l71Frame
    rw [scan2 (step := f_spec_l71Frame_s0 n) (n := n.Links.length) (by omega) (fun k => rfl)]
    show (bif _ then false else bif allN n.Links.length (linkGood n) then true else false) = _
    rw [Bool.eq_iff_iff]
    cases allN n.Links.length (linkGood n) <;> simp only [within, l71In, bs, cond_true, cond_false, Bool.and_true, Bool.and_false] <;> simp <;> omega
  · intro k hk hp
    simp only [linkGood, bs] at hp
    omega

theorem link_eq {n : LabNet} (hn : f_impl_LabNet__linksOk n = true) (a b : Int) : f_impl_LabNet__link n a b = f_spec_l71Link n a b := by
  obtain ⟨p, h1, -, h3⟩ := links_all n
  rw [h1, Bool.and_eq_true, allN_iff] at hn
  unfold f_impl_LabNet__link f_spec_l71Link
  have e : f_slices_Index___impl_LabLink_impl_LabLink_s0 n.Links ⟨if b < a then b else a, if a < b then b else a⟩ = f_spec_l71Link_s0 n a b := by
    funext k
    unfold f_slices_Index___impl_LabLink_impl_LabLink_s0 f_spec_l71Link_s0
    by_cases hk : k < n.Links.length
    · obtain ⟨h4, h5⟩ := h3 k hk (hn.1 k hk)
      have : ((if b < a then b else a) == (n.Links.getD k default).A && (if a < b then b else a) == (n.Links.getD k default).B) = (bif (n.Links.getD k default).A == a then (n.Links.getD k default).B == b || ((n.Links.getD k default).A == b && (n.Links.getD k default).B == a) else ((n.Links.getD k default).A == b && (n.Links.getD k default).B == a)) := by
        generalize n.Links.getD k default = x at *
        rw [Bool.eq_iff_iff]
        simp only [bs]
        by_cases h6 : a < b <;> by_cases h7 : b < a <;> simp only [h6, h7, if_true, if_false] <;> omega
      simp only [this]
    · have : decide ((k : Int) < (n.Links.length : Int)) = false := by simpa using hk
      simp only [this, cond_false]
  unfold f_slices_Index___impl_LabLink_impl_LabLink
  rw [e]

theorem scan_none {ρ τ : Type} {step : Nat → Lp Nat ρ} {n m : Nat} {r : Nat → ρ} {f : ρ → τ} {g : Nat → τ} {c : Nat → Bool} (hm : m = n + 1) (h : ∀ k, step k = bif decide ((k : Int) < (n : Int)) then (bif c k then .ret (r k) else .next (k + 1)) else .done k) (hc : ∀ k, k < n → c k = false) :
    Lp.fin (runL step m 0) f g = g n := by
  have := scan_all (step := step) (n := n) (m := m) (r0 := r 0) (f := f) (g := g) (fun _ => true) hm (fun k hk => by
    rw [h k, show decide ((k : Int) < (n : Int)) = true from by simpa using hk, cond_true, hc k hk]; rfl) (fun k hk => by
    rw [h k, show decide ((k : Int) < (n : Int)) = false from by simpa using hk, cond_false])
  rw [this]
  have e : allN n (fun _ => true) = true := allN_iff.2 fun _ _ => rfl
  rw [e]; rfl

theorem link_neg {n : LabNet} (hn : f_impl_LabNet__linksOk n = true) (a : Int) : f_spec_l71Link n a (-1) = -1 := by
  obtain ⟨p, h1, -, h3⟩ := links_all n
  rw [h1, Bool.and_eq_true, allN_iff] at hn
  unfold f_spec_l71Link
  refine scan_none (step := f_spec_l71Link_s0 n a (-1)) (n := n.Links.length) (by omega) (fun k => rfl) (fun k hk => ?_)
  obtain ⟨h4, h5⟩ := h3 k hk (hn.1 k hk)
  generalize n.Links.getD k default = x at *
  simp [Bool.cond_eq_ite]
  split <;> omega

theorem boxOk_eq {n : LabNet} (hn : f_impl_LabNet__linksOk n = true) (b : Int) : f_impl_LabNet__boxOk n b = f_spec_l71BoxOk n b := by
  unfold f_impl_LabNet__boxOk f_spec_l71BoxOk
  have e0 : f_impl_LabNet__boxOk_s0 n b = f_spec_l71BoxOk_s0 n b := by
    funext k
    unfold f_impl_LabNet__boxOk_s0 f_spec_l71BoxOk_s0
    congr 1
    congr 1
    simp only [link_eq hn, f_spec_l71RowOk, isLabel, within, l71In]
    have hneg := link_neg hn b
    generalize (n.Boxes.getD (Int.toNat b) default).Rows.getD k default = x at *
    generalize ((n.Boxes.getD (Int.toNat b) default).Rows.getD (Int.toNat ((k : Int) - 1)) default).In = y at *
    by_cases hx : x.Next = -1
    · rw [hx, hneg]
      rw [Bool.eq_iff_iff]
      simp [Bool.cond_eq_ite]
      by_cases ho : x.Out = 0 <;> simp [ho] <;> omega
    · have hx' : (x.Next == (-1 : Int)) = false := by simpa using hx
      rw [hx']
      rw [Bool.eq_iff_iff]
      simp
      omega
  have e1 : ∀ v, f_impl_LabNet__boxOk_s1 n b v = f_spec_l71BoxOk_s1 n b v := by
    intro v
    funext k
    unfold f_impl_LabNet__boxOk_s1 f_spec_l71BoxOk_s1
    congr 1
    congr 1
    simp only [link_eq hn, f_spec_l71ViaOk, isLabel, within, l71In]
    rw [Bool.eq_iff_iff]
    simp
    omega
  rw [e0]
  congr 1
  funext v
  rw [e1 v]

theorem labNetOk_eq (n : LabNet) : f_impl_LabNetOk n = f_spec_LabNetOk n := by
  obtain ⟨p, h1, h2, -⟩ := links_all n
  unfold f_impl_LabNetOk f_spec_LabNetOk
  rw [h2]
  have e : (!(within (n.Boxes.length : Int) 1 8) || !(f_impl_LabNet__linksOk n)) = !((within (n.Boxes.length : Int) 1 8 && decide ((n.Links.length : Int) ≤ 14)) && allN n.Links.length p) := by
    rw [h1]
    cases within (n.Boxes.length : Int) 1 8 <;> cases decide ((n.Links.length : Int) ≤ 14) <;> cases allN n.Links.length p <;> rfl
  rw [← e]
  cases hl : f_impl_LabNet__linksOk n with
  | false => cases within (n.Boxes.length : Int) 1 8 <;> rfl
  | true =>
    have e0 : f_impl_LabNetOk_s0 n = f_spec_LabNetOk_s0 n := by
      funext k
      unfold f_impl_LabNetOk_s0 f_spec_LabNetOk_s0
      rw [boxOk_eq hl]
    rw [e0]

theorem labNetOk_links {n : LabNet} (h : f_impl_LabNetOk n = true) : f_impl_LabNet__linksOk n = true := by
  unfold f_impl_LabNetOk at h
  cases hl : f_impl_LabNet__linksOk n with
  | true => rfl
  | false => rw [hl] at h; simp at h

theorem labLinked_eq (n : LabNet) (a b : Int) : f_impl_LabLinked n a b = f_spec_LabLinked n a b := by
  unfold f_impl_LabLinked f_spec_LabLinked
  rw [← labNetOk_eq]
  cases h : f_impl_LabNetOk n with
  | false => rfl
  | true => rw [link_eq (labNetOk_links h)]

end Go.Proofs.Ytfehpdcfndhniaa
