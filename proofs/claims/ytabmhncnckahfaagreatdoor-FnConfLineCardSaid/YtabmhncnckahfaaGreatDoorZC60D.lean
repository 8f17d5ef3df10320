/- A part of the proof of FnConfLine. Texts put together: VF3, PA5, PA6, PA7, PA8, PJ1, VFF, PFF, PCL0, VCL, PCL, PK0, VK, PK1, VK2, PK2, PDX, PLD, PLD2, VDC0, PDC0, VDC1, PDC1, VDC2, PDC2. -/
import Derived.Test.YtabmhncnckahfaaGreatDoorRows
import Derived.Test.YtabmhncnckahfaaGreatDoorZC60C
namespace Go.Proofs.YtabmhncnckahfaaGreatDoor
open Go.RowKit
set_option maxRecDepth 100000
set_option linter.unusedVariables false
set_option linter.unusedSimpArgs false
def F134_s0 (word : ByteArray) : Int → Lp Int Bool := fun i40 =>
 bif (decide (i40 < (word.size : Int))) then (bif (bif (bif (((word.data.getD (Int.toNat i40) 0).toNat : Int) != 45) then (bif decide (((word.data.getD (Int.toNat i40) 0).toNat : Int) < 97) then true else decide (((word.data.getD (Int.toNat i40) 0).toNat : Int) > 122)) else false) then (bif decide (((word.data.getD (Int.toNat i40) 0).toNat : Int) < 48) then true else decide (((word.data.getD (Int.toNat i40) 0).toNat : Int) > 57)) else false) then (.ret false) else (.next (i40 + 1))) else (.done i40)
def F134 (word : ByteArray) : Bool :=
 (runL (F134_s0 word) ((Int.toNat ((word.size : Int) - 0)) + 1) 0).fin (fun r => r) (fun i40 => (decide (1 ≤ (word.size : Int) ∧ (word.size : Int) ≤ 8)))
abbrev lN134_0 (word : ByteArray) : Nat × Int := (((Int.toNat ((word.size : Int) - 0)) + 1), 0)
abbrev lI134_0 (word : ByteArray) (m39 : Nat) (i40 : Int) : Prop := Int.toNat ((word.size : Int) - i40) < m39 ∧ (0 : Int) ≤ i40
abbrev lX134_0 (word : ByteArray) : Lp Int Bool := LpX (F134_s0 word) (lN134_0 word)
abbrev lJ134_0 (word : ByteArray) (i : Nat × Int) : Prop := LpJ (F134_s0 word) (lN134_0 word) i (lI134_0 word i.1 i.2)
abbrev lH134_0 (word : ByteArray) (i : Nat × Int) (m39 : Nat) (i40 : Int) : Prop := LpH (F134_s0 word) (lN134_0 word) i m39 i40 (lI134_0 word (m39 + 1) i40)
abbrev lE134_0 (word : ByteArray) (i40 : Int) (i40_ : Int) (K39 : Prop) : Prop := (Rf (.string word)) ∧ ((.int .i64 i40 : Value) = .int .i64 i40_) ∧ K39
theorem un134_0 (word : ByteArray) (i : Nat × Int) (h : lJ134_0 word i) : lH134_0 word i (i.1 - 1) i.2 := ⟨hd1 h.1 h.2.1, hd3 h.2.1, hd2 h.2.1, h.2.2⟩
theorem bk134_0 (word : ByteArray) (i : Nat × Int) (m39 : Nat) (i40 : Int) (hl : m39 < i.1) (e : runL (F134_s0 word) m39 i40 = lX134_0 word) (h : lI134_0 word m39 i40) : ∃ j : Nat × Int, lE134_0 word i40 j.2 (lJ134_0 word j ∧ j.1 < i.1) := ⟨(m39, i40), rfl, rfl, ⟨e, h⟩, hl⟩
theorem en134_0 (word : ByteArray) (h : (0 : Int) ≤ 0) : lE134_0 word 0 0 (lJ134_0 word (lN134_0 word)) := ⟨rfl, rfl, rfl, Nat.lt_succ_self _, h⟩
def S134 (word : ByteArray) : Spec := ⟨[.r (.c (.v (.string word)))], .v (.bool (F134 word)), word.size ≤ 1048576⟩
theorem ok134 (word : ByteArray) : (S134 word).ok Tryz.prog 134 :=
 fnG_ok mixed (fn := Tryz.f134) (ct := .seq .no (.seq (.seq .no (.blk (.loop (ι := Nat × Int) (fun i => (fun (i40 : Int) => (⟨[(0, some (.v (.string word))), (3, some (.v (vI i40)))], [], 0⟩ : St)) i.2) (lJ134_0 word) (fun i => i.1) (lN134_0 word) (fun i => (fun (i40 : Int) => (.seq (.seq .no (.cond .no .no)) (.seq (.blk (.seq .no (.seq .no (.cond (.seq .no .no) .no)))) (.reg [(1, .bnd)])))) i.2)))) (.seq (.reg [(2, kh39a (word.size : Int) 1 8)]) .no))) Tryz.func134 (fun (hpre0 : word.size ≤ 1048576) => ai (en134_0 word (by omega)) (fun (i0 : Nat × Int) (hi0 : lJ134_0 word i0) => (fun (m0 : Nat) (i40 : Int) (hh0 : lH134_0 word i0 m0 i40) => have hI0 := hh0.1; have hl0 := hh0.2.1; have _ := hh0.2.2.1; have _ := hh0.2.2.2; ifd (i40 < (word.size : Int)) (fun h2 _ => ai (by omega : 0 ≤ i40 ∧ i40 < (word.size : Int)) (ifb (bif (bif (((word.data.getD (Int.toNat i40) 0).toNat : Int) != 45) then (bif decide (((word.data.getD (Int.toNat i40) 0).toNat : Int) < 97) then true else decide (((word.data.getD (Int.toNat i40) 0).toNat : Int) > 122)) else false) then (bif decide (((word.data.getD (Int.toNat i40) 0).toNat : Int) < 48) then true else decide (((word.data.getD (Int.toNat i40) 0).toNat : Int) > 57)) else false) (fun h3 => have _ := bneT (andT1 (andT1 h3)); fiB false (F134 word) (finR (runL_ret hI0 (condT h2 (condT h3 rfl))) rfl)) (fun h3 => ai (iok (i40 + 1) (by omega)) (bk134_0 word i0 m0 (i40 + 1) hl0 (runL_next hI0 (condT h2 (condF h3 rfl))) (by refine ⟨?_, ?_⟩ <;> omega))))) (fun h2 _ => have hD0_4 : lX134_0 word = Lp.done i40 := runL_done hI0 (condF h2 rfl); kc39a (word.size : Int) 1 8 (fiB (decide (1 ≤ (word.size : Int) ∧ (word.size : Int) ≤ 8)) (F134 word) (finD hD0_4 rfl)))) (i0.1 - 1) i0.2 (un134_0 word i0 hi0))) (by kernel_rfl)
theorem kc129 (word : ByteArray) {K_ : Prop} (p0_ : word.size ≤ 1048576) (k_ : K_) : (word.size ≤ 1048576) ∧ (Imp (.v (.string word)) (.v (.string word))) ∧ K_ := ⟨p0_, Imp.refl _, k_⟩
abbrev kh129 (word : ByteArray) : Hint true Tryz.prog := .call 129 (S129 word) (ok129 word) none
def F135 (word : ByteArray) : Bool :=
 (F129 word).2
def S135 (word : ByteArray) : Spec := ⟨[.r (.c (.v (.string word)))], .v (.bool (F135 word)), word.size ≤ 1048576⟩
theorem ok135 (word : ByteArray) : (S135 word).ok Tryz.prog 135 :=
 fnG_ok mixed (fn := Tryz.f135) (ct := .seq .no (.seq (.reg [(1, kh129 word)]) (.seq .no .no))) Tryz.func135 (fun (hpre0 : word.size ≤ 1048576) => kc129 word (by omega) (fiB ((F129 word).2) (F135 word) rfl)) (by kernel_rfl)
theorem kc114 (text : ByteArray) {K_ : Prop} (p0_ : text.size ≤ 1048576) (k_ : K_) : (text.size ≤ 1048576) ∧ (Imp (.v (.string text)) (.v (.string text))) ∧ K_ := ⟨p0_, Imp.refl _, k_⟩
abbrev kh114 (text : ByteArray) : Hint false Tryz.prog := .call 114 (S114 text) (ok114 text) none
def F136 (word : ByteArray) : Bool :=
 (F114 word).2
def S136 (word : ByteArray) : Spec := ⟨[.r (.c (.v (.string word)))], .v (.bool (F136 word)), word.size ≤ 1048576⟩
theorem ok136 (word : ByteArray) : (S136 word).ok Tryz.prog 136 false :=
 fnG_ok mixed (fn := Tryz.f136) (ct := .seq .no (.seq (.reg [(1, kh114 word)]) (.seq .no .no))) Tryz.func136 (fun (hpre0 : word.size ≤ 1048576) => kc114 word (by omega) (fiB ((F114 word).2) (F136 word) rfl)) (by kernel_rfl)
def F138 (word : ByteArray) : Bool :=
 decide ((F110 word) ≥ 0)
def S138 (word : ByteArray) : Spec := ⟨[.r (.c (.v (.string word)))], .v (.bool (F138 word)), word.size ≤ 1048576⟩
theorem ok138 (word : ByteArray) : (S138 word).ok Tryz.prog 138 false :=
 fnG_ok mixed (fn := Tryz.f138) (ct := .seq .no (.seq (.reg [(1, kh110 word)]) .no)) Tryz.func138 (fun (hpre0 : word.size ≤ 1048576) => kc110 word (by omega) (fiB (decide ((F110 word) ≥ 0)) (F138 word) rfl)) (by kernel_rfl)
def F115 (word : ByteArray) : Int :=
 bif (decide ((word.size : Int) > 6)) then (-1) else (F149 word)
def S115 (word : ByteArray) : Spec := ⟨[.r (.c (.v (.string word)))], .v (vI (F115 word)), word.size ≤ 1048576⟩
theorem ok115 (word : ByteArray) : (S115 word).ok Tryz.prog 115 false :=
 fnG_ok mixed (fn := Tryz.f115) (ct := .seq .no (.seq (.seq .no (.cond (.seq .no .no) .no)) (.seq (.reg [(1, kh149 word)]) .no))) Tryz.func115 (fun (hpre0 : word.size ≤ 1048576) => ifd ((word.size : Int) > 6) (fun h1 _ => fiI (-1) (F115 word) (condT h1 rfl)) (fun h1 _ => kc149 word (by omega) (fiI (F149 word) (F115 word) (condF h1 rfl)))) (by kernel_rfl)
theorem scan_loop (s : ByteArray) (st : Int → Lp Int Bool) (p : UInt8 → Bool) (y : Bool)
  (h1 : ∀ (i : Nat), i < s.size → ∀ b, s.data.toList.getD i 0 = b → st (i : Int) = bif p b then .next ((i + 1 : Nat) : Int) else .ret false)
  (h2 : st (s.size : Int) = .done (s.size : Int)) : ∀ (m i : Nat), i + m = s.size → ∀ fuel, m < fuel → (runL st fuel (i : Int)).fin (fun r => r) (fun _ => y) = bif (s.data.toList.drop i).all p then y else false
 | m, i, _, 0, hf => absurd hf (Nat.not_lt_zero _)
 | 0, i, h, fuel + 1, hf => by
  have hl : s.data.toList.length = s.size := Array.length_toList
  obtain rfl : i = s.size := by omega
  rw [runL_d _ h2, List.drop_of_length_le (by omega)]
  rfl
 | m + 1, i, h, fuel + 1, hf => by
  have hl : s.data.toList.length = s.size := Array.length_toList
  have hb : s.data.toList.drop i = s.data.toList.getD i 0 :: s.data.toList.drop (i + 1) := by
   rw [List.drop_eq_getElem_cons (by omega), List.getD_eq_getElem?_getD, List.getElem?_eq_getElem (by omega)]; rfl
  have hst := h1 i (by omega) _ rfl
  rw [hb, List.all_cons]
  generalize s.data.toList.getD i 0 = b at hst ⊢
  cases hd : p b with
  | false =>
   rw [hd, cond_false] at hst
   rw [runL_r _ hst]; rfl
  | true =>
   rw [hd, cond_true] at hst
   rw [runL_n _ hst, scan_loop s st p y h1 h2 m (i + 1) (by omega) fuel (by omega), Bool.true_and]
def nameB (b : UInt8) : Bool := decide (b.toNat = 45) || decide (97 ≤ b.toNat ∧ b.toNat ≤ 122) || decide (48 ≤ b.toNat ∧ b.toNat ≤ 57)
def nameL (l : List UInt8) : Bool := decide (1 ≤ l.length ∧ l.length ≤ 8) && l.all nameB
theorem bne45 (b : UInt8) : ((b.toNat : Int) != 45) = !decide (b.toNat = 45) := by
 cases h : decide (b.toNat = 45) with
 | true =>
  have := of_decide_eq_true h
  rw [this]; rfl
 | false =>
  have := of_decide_eq_false h
  rw [Bool.not_false, bne_iff_ne]; omega
theorem two_test (b : UInt8) (lo hi : Nat) : (bif decide ((b.toNat : Int) < (lo : Int)) then true else decide ((b.toNat : Int) > (hi : Int))) = !decide (lo ≤ b.toNat ∧ b.toNat ≤ hi) := by
 by_cases h1 : (b.toNat : Int) < (lo : Int)
 ·rw [decide_eq_true h1, cond_true, decide_eq_false (by omega)]; rfl
 ·rw [decide_eq_false h1, cond_false]
  by_cases h2 : (b.toNat : Int) > (hi : Int)
  ·rw [decide_eq_true h2, decide_eq_false (by omega)]; rfl
  ·rw [decide_eq_false h2, decide_eq_true (by omega)]; rfl
theorem between (b : UInt8) (lo hi : Nat) : decide ((lo : Int) ≤ (b.toNat : Int) ∧ (b.toNat : Int) ≤ (hi : Int)) = decide (lo ≤ b.toNat ∧ b.toNat ≤ hi) := by
 congr 1
 exact propext ⟨fun h => by omega, fun h => by omega⟩
theorem implName_eq (s : ByteArray) : F134 s = nameL s.data.toList := by
 have hl : s.data.toList.length = s.size := Array.length_toList
 have h := scan_loop s (F134_s0 s) nameB (decide (1 ≤ (s.size : Int) ∧ (s.size : Int) ≤ 8)) (fun i hi b hb => by
  have a1 := two_test b 97 122
  have a2 := two_test b 48 57
  have c1 : ((97 : Nat) : Int) = 97 := rfl
  have c2 : ((122 : Nat) : Int) = 122 := rfl
  have c3 : ((48 : Nat) : Int) = 48 := rfl
  have c4 : ((57 : Nat) : Int) = 57 := rfl
  rw [c1, c2] at a1
  rw [c3, c4] at a2
  simp only [F134_s0, decide_eq_true (show (i : Int) < (s.size : Int) by omega), cond_true, Int.toNat_natCast, getD_list, hb, bne45, a1, a2, nameB]
  cases decide (b.toNat = 45) <;> cases decide (97 ≤ b.toNat ∧ b.toNat ≤ 122) <;> cases decide (48 ≤ b.toNat ∧ b.toNat ≤ 57) <;> rfl)
  (by simp only [F134_s0, decide_eq_false (show ¬ (s.size : Int) < (s.size : Int) by omega), cond_false]) s.size 0 (by omega) (Int.toNat ((s.size : Int) - 0) + 1) (by omega)
 unfold F134
 refine h.trans ?_
 rw [List.drop_zero, nameL]
 have e : decide ((1 : Int) ≤ (s.size : Int) ∧ (s.size : Int) ≤ 8) = decide (1 ≤ s.data.toList.length ∧ s.data.toList.length ≤ 8) := by
  congr 1
  exact propext ⟨fun h => by omega, fun h => by omega⟩
 rw [e]
 cases s.data.toList.all nameB <;> cases decide (1 ≤ s.data.toList.length ∧ s.data.toList.length ≤ 8) <;> rfl
theorem specName_eq (s : ByteArray) : F82 s = nameL s.data.toList := by
 have hl : s.data.toList.length = s.size := Array.length_toList
 have h := scan_loop s (F82_s0 s) nameB true (fun i hi b hb => by
  have a1 := between b 97 122
  have a2 := between b 48 57
  have c1 : ((97 : Nat) : Int) = 97 := rfl
  have c2 : ((122 : Nat) : Int) = 122 := rfl
  have c3 : ((48 : Nat) : Int) = 48 := rfl
  have c4 : ((57 : Nat) : Int) = 57 := rfl
  rw [c1, c2] at a1
  rw [c3, c4] at a2
  simp only [F82_s0, decide_eq_true (show (i : Int) < (s.size : Int) by omega), cond_true, Int.toNat_natCast, getD_list, hb, bne45, wrap_u8, a1, a2, nameB]
  cases decide (b.toNat = 45) <;> cases decide (97 ≤ b.toNat ∧ b.toNat ≤ 122) <;> cases decide (48 ≤ b.toNat ∧ b.toNat ≤ 57) <;> rfl)
  (by simp only [F82_s0, decide_eq_false (show ¬ (s.size : Int) < (s.size : Int) by omega), cond_false]) s.size 0 (by omega) (Int.toNat ((s.size : Int) - 0) + 1) (by omega)
 unfold F82
 rw [List.drop_zero] at h
 have e : decide ((1 : Int) ≤ (s.size : Int) ∧ (s.size : Int) ≤ 8) = decide (1 ≤ s.data.toList.length ∧ s.data.toList.length ≤ 8) := by
  congr 1
  exact propext ⟨fun h => by omega, fun h => by omega⟩
 rw [e, nameL]
 cases decide (1 ≤ s.data.toList.length ∧ s.data.toList.length ≤ 8) with
 | false => rfl
 | true =>
  refine h.trans ?_
  cases s.data.toList.all nameB <;> rfl
theorem name_same (s : ByteArray) : F134 s = F82 s := (implName_eq s).trans (specName_eq s).symm
def anyF (c : Nat → Bool) : Nat → Nat → Bool
 | _, 0 => false
 | i, m + 1 => c i || anyF c (i + 1) m
theorem any_loop {ρ τ : Type} (st : Int → Lp Int ρ) (n : Nat) (c : Nat → Bool) (bad : ρ) (f : ρ → τ) (y : τ) (h1 : ∀ i, i < n → st (i : Int) = bif c i then .ret bad else .next ((i + 1 : Nat) : Int)) (h2 : st (n : Int) = .done (n : Int)) :
  ∀ (m i : Nat), i + m = n → ∀ fuel, m < fuel → (runL st fuel (i : Int)).fin f (fun _ => y) = bif anyF c i m then f bad else y
 | m, i, _, 0, hf => absurd hf (Nat.not_lt_zero _)
 | 0, i, h, fuel + 1, hf => by
  obtain rfl : i = n := by omega
  rw [runL_d _ h2]; rfl
 | m + 1, i, h, fuel + 1, hf => by
  have hst := h1 i (by omega)
  rw [anyF]
  cases hd : c i with
  | true =>
   rw [hd, cond_true] at hst
   rw [runL_r _ hst]; rfl
  | false =>
   rw [hd, cond_false] at hst
   rw [runL_n _ hst, any_loop st n c bad f y h1 h2 m (i + 1) (by omega) fuel (by omega), Bool.false_or]
theorem implHas_eq (ws : List ByteArray) (x : ByteArray) : F75 ws x = ws.any fun e => x.toList == e.toList := by
 unfold F75
 rw [← any_idx]
 congr 1
 exact congrArg (· ≥ 0) (idx_loop (fun e : ByteArray => x.toList == e.toList) ws (F128_s0 ws x) (fun i => rfl))
theorem anyF_drop (ws : List ByteArray) (p : ByteArray → Bool) : ∀ (m i : Nat), i + m = ws.length → anyF (fun k => p (ws.getD k default)) i m = (ws.drop i).any p
 | 0, i, h => by rw [List.drop_of_length_le (by omega)]; rfl
 | m + 1, i, h => by
  rw [List.drop_eq_getElem_cons (by omega), List.any_cons, anyF, anyF_drop ws p m (i + 1) (by omega), List.getD_eq_getElem?_getD, List.getElem?_eq_getElem (by omega)]
  rfl
theorem specHas_eq (ws : List ByteArray) (x : ByteArray) : F84 ws x = ws.any fun e => e.toList == x.toList := by
 have h := any_loop (F84_s0 ws x) ws.length (fun k => (ws.getD k default).toList == x.toList) true (fun r => r) false (fun i hi => by
  simp only [F84_s0, decide_eq_true (show (i : Int) < (ws.length : Int) by omega), cond_true, Int.toNat_natCast]
  rfl) (by simp only [F84_s0, decide_eq_false (show ¬ (ws.length : Int) < (ws.length : Int) by omega), cond_false]) ws.length 0 (by omega) (Int.toNat ((ws.length : Int) - 0) + 1) (by omega)
 unfold F84
 refine h.trans ?_
 rw [anyF_drop ws (fun e => e.toList == x.toList) ws.length 0 (by omega), List.drop_zero]
 cases (ws.any fun e => e.toList == x.toList) <;> rfl
theorem has_same (ws : List ByteArray) (x : ByteArray) : F75 ws x = F84 ws x := by
 rw [implHas_eq, specHas_eq]
 congr 1
 funext e
 rw [Bool.eq_iff_iff, beq_iff_eq, beq_iff_eq]
 exact eq_comm
def rightBad (ws : List ByteArray) (k : Nat) : Bool := bif (!(F84 F143 (ws.getD k default))) then true else (bif decide ((k : Int) > 0) then (!(Op.bytesLess (ws.getD (Int.toNat ((k : Int) - 1)) default).toList (ws.getD k default).toList)) else false)
def rightsB (s : ByteArray) : Bool := bif (bif (s.toList == (⟨#[97, 108, 108]⟩ : ByteArray).toList) then true else (s.toList == (⟨#[110, 111, 110, 101]⟩ : ByteArray).toList)) then true else !anyF (rightBad (splitS s ⟨#[44]⟩)) 0 (splitS s ⟨#[44]⟩).length
theorem implRights_eq (s : ByteArray) : (F129 s).2 = rightsB s := by
 have e90 : ∀ t u : ByteArray, F41 t u = splitS t u := fun _ _ => rfl
 have h := any_loop (F129_s0 s) (splitS s ⟨#[44]⟩).length (rightBad (splitS s ⟨#[44]⟩)) (([] : List ByteArray), false) (fun r => r) ((splitS s ⟨#[44]⟩), true) (fun i hi => by
  have hh := has_same F143 ((splitS s ⟨#[44]⟩).getD i default)
  unfold F143 at hh
  simp only [F129_s0, e90, decide_eq_true (show (i : Int) < ((splitS s ⟨#[44]⟩).length : Int) by omega), cond_true, Int.toNat_natCast, hh]
  rfl) (by simp only [F129_s0, e90, decide_eq_false (show ¬ ((splitS s ⟨#[44]⟩).length : Int) < ((splitS s ⟨#[44]⟩).length : Int) by omega), cond_false]) (splitS s ⟨#[44]⟩).length 0 (by omega) (Int.toNat (((splitS s ⟨#[44]⟩).length : Int) - 0) + 1) (by omega)
 unfold F129 rightsB
 cases (bif (s.toList == (⟨#[97, 108, 108]⟩ : ByteArray).toList) then true else (s.toList == (⟨#[110, 111, 110, 101]⟩ : ByteArray).toList)) with
 | true => rfl
 | false =>
  rw [cond_false, cond_false]
  refine (congrArg (fun r : List ByteArray × Bool => r.2) h).trans ?_
  cases anyF (rightBad (splitS s ⟨#[44]⟩)) 0 (splitS s ⟨#[44]⟩).length <;> rfl
theorem specRights_eq (s : ByteArray) : F92 s = rightsB s := by
 have hc : F85 s 44 = splitS s ⟨#[44]⟩ := specCut_split s 44
 have h := any_loop (F92_s0 s) (splitS s ⟨#[44]⟩).length (rightBad (splitS s ⟨#[44]⟩)) false (fun r => r) true (fun i hi => by
  simp only [F92_s0, hc, decide_eq_true (show (i : Int) < ((splitS s ⟨#[44]⟩).length : Int) by omega), cond_true, Int.toNat_natCast]
  rfl) (by simp only [F92_s0, hc, decide_eq_false (show ¬ ((splitS s ⟨#[44]⟩).length : Int) < ((splitS s ⟨#[44]⟩).length : Int) by omega), cond_false]) (splitS s ⟨#[44]⟩).length 0 (by omega) (Int.toNat (((splitS s ⟨#[44]⟩).length : Int) - 0) + 1) (by omega)
 unfold F92 rightsB
 rw [hc]
 cases (bif (s.toList == (⟨#[97, 108, 108]⟩ : ByteArray).toList) then true else (s.toList == (⟨#[110, 111, 110, 101]⟩ : ByteArray).toList)) with
 | true => rfl
 | false =>
  rw [cond_false, cond_false]
  refine h.trans ?_
  cases anyF (rightBad (splitS s ⟨#[44]⟩)) 0 (splitS s ⟨#[44]⟩).length <;> rfl
theorem rights_same (s : ByteArray) : (F129 s).2 = F92 s := (implRights_eq s).trans (specRights_eq s).symm
theorem number_eq (s : ByteArray) : F115 s = num6 s.data.toList := by
 have hl : s.data.toList.length = s.size := Array.length_toList
 have e209 : F149 s = decN s := rfl
 unfold F115
 by_cases h : s.size ≤ 6
 ·rw [decide_eq_false (show ¬ (s.size : Int) > 6 by omega), cond_false, e209, decN_six s h]
 ·rw [decide_eq_true (show (s.size : Int) > 6 by omega), cond_true]
  unfold num6
  rw [decide_eq_false (show ¬ s.data.toList.length ≤ 6 by omega), Bool.and_false]; rfl
theorem number_same (s : ByteArray) : F115 s = F123 s := (number_eq s).trans (specNum_eq s).symm
theorem isAddr_same (s : ByteArray) : F138 s = decide (F95 s ≥ 0) := by
 unfold F138
 rw [addr_same]
theorem isPrefix_same (s : ByteArray) : F136 s = F94 s := isPfx_same s
theorem isRights_same (s : ByteArray) : F135 s = F92 s := rights_same s
theorem joinS_loop (list : List ByteArray) (sep : ByteArray) : ∀ (m i : Nat) (out : ByteArray), i + m = list.length → 1 ≤ i → ∀ fuel, m < fuel →
  ((runL (F37_s0 list sep) fuel (out, (i : Int))).fin (fun r => r) (fun (out, i40) => out)).data.toList = out.data.toList ++ Lib.joinTail sep.data.toList ((list.drop i).map (·.data.toList))
 | m, i, out, _, _, 0, hf => absurd hf (Nat.not_lt_zero _)
 | 0, i, out, h, h1, fuel + 1, hf => by
  have hst : F37_s0 list sep (out, (i : Int)) = .done (out, (i : Int)) := by
   simp only [F37_s0, decide_eq_false (show ¬ (i : Int) < (list.length : Int) by omega), cond_false]
  rw [runL_d _ hst, List.drop_of_length_le (by omega)]
  simp [Lib.joinTail, Lp.fin]
 | m + 1, i, out, h, h1, fuel + 1, hf => by
  have hst : F37_s0 list sep (out, (i : Int)) = .next ((out ++ sep) ++ list.getD i default, ((i + 1 : Nat) : Int)) := by
   simp only [F37_s0, decide_eq_true (show (i : Int) < (list.length : Int) by omega), decide_eq_true (show (i : Int) > 0 by omega), cond_true, Int.toNat_natCast]
   rfl
  rw [runL_n _ hst, joinS_loop list sep m (i + 1) _ (by omega) (by omega) fuel (by omega)]
  rw [List.drop_eq_getElem_cons (show i < list.length by omega), List.map_cons, List.getD_eq_getElem?_getD, List.getElem?_eq_getElem (show i < list.length by omega)]
  simp [Lib.joinTail, ByteArray.data_append, Array.toList_append, List.append_assoc]
theorem specJoin_eq (list : List ByteArray) (sep : ByteArray) : F37 list sep = joinS list sep := by
 refine ba_ext ?_
 show _ = Lib.join (list.map (·.data.toList)) sep.data.toList
 unfold F37
 cases list with
 | nil => rfl
 | cons a t =>
  have hst : F37_s0 (a :: t) sep ((⟨#[]⟩ : ByteArray), 0) = .next ((⟨#[]⟩ : ByteArray) ++ a, ((1 : Nat) : Int)) := by
   simp only [F37_s0, decide_eq_true (show (0 : Int) < ((a :: t).length : Int) by simp only [List.length_cons]; omega), decide_eq_false (show ¬ (0 : Int) > 0 by omega), cond_true, cond_false]
   rfl
  rw [runL_n _ hst, joinS_loop (a :: t) sep t.length 1 _ (by simp only [List.length_cons]; omega) (by omega) _ (by simp only [List.length_cons]; omega)]
  rw [ByteArray.data_append, Array.toList_append, List.drop_succ_cons, List.drop_zero]
  exact (Lib.join_cons _ _ _).symm
theorem kc115 (word : ByteArray) {K_ : Prop} (p0_ : word.size ≤ 1048576) (k_ : K_) : (word.size ≤ 1048576) ∧ (Imp (.v (.string word)) (.v (.string word))) ∧ K_ := ⟨p0_, Imp.refl _, k_⟩
abbrev kh115 (word : ByteArray) : Hint false Tryz.prog := .call 115 (S115 word) (ok115 word) none
def F165 (word : ByteArray) (p1 : Int) (p2 : Int) : Bool :=
 (decide (p1 ≤ (F115 word) ∧ (F115 word) ≤ p2))
def S165 (word : ByteArray) (p1 : Int) (p2 : Int) : Spec := ⟨[.r (.c (.v (.string word))), .rp ([.v (vI p1)]), .rp ([.v (vI p2)])], .v (.bool (F165 word p1 p2)), word.size ≤ 1048576⟩
theorem ok165 (word : ByteArray) (p1 : Int) (p2 : Int) : (S165 word p1 p2).ok Tryz.prog 165 false :=
 fnG_ok mixed (fn := Tryz.f165) (ct := .seq .no (.seq (.reg [(1, kh115 word), (4, kh39af (F115 word) p1 p2)]) .no)) Tryz.func165 (fun (hpre0 : word.size ≤ 1048576) => kc115 word (by omega) (kc39a (F115 word) p1 p2 (fiB (decide (p1 ≤ (F115 word) ∧ (F115 word) ≤ p2)) (F165 word p1 p2) rfl))) (by kernel_rfl)
def F133 (low : Int) (high : Int) : Unit :=
 ()
def S133 (low : Int) (high : Int) : Spec := ⟨[.r (.c (.v (vI low))), .r (.c (.v (vI high)))], .cl 165 [.pt 3 [.v (vI low)], .pt 3 [.v (vI high)]], True⟩
theorem ok133 (low : Int) (high : Int) : (S133 low high).ok Tryz.prog 133 :=
 fnG_ok mixed (fn := Tryz.f133) (ct := .seq .no (.seq .no .no)) Tryz.func133 (fun (_ : True) => (fun hF : (() : Unit) = (F133 low high) => ai (Imps.refl [.v (vI low)]) (ai (Imps.refl [.v (vI high)]) trivial)) rfl) (by kernel_rfl)
def F166 (word : ByteArray) (p1 : List ByteArray) : Bool :=
 (F75 p1 word)
def S166 (word : ByteArray) (p1 : List ByteArray) : Spec := ⟨[.r (.c (.v (.string word))), .rp ([.l 1 eStr p1])], .v (.bool (F166 word p1)), word.size ≤ 1048576⟩
theorem ok166 (word : ByteArray) (p1 : List ByteArray) : (S166 word p1).ok Tryz.prog 166 :=
 fnG_ok mixed (fn := Tryz.f166) (ct := .seq .no (.seq (.reg [(2, kh75 p1 word)]) .no)) Tryz.func166 (fun (hpre0 : word.size ≤ 1048576) => kc75 p1 word (fiB (F75 p1 word) (F166 word p1) rfl)) (by kernel_rfl)
def F137 (words : List ByteArray) : Unit :=
 ()
def S137 (words : List ByteArray) : Spec := ⟨[.ow (.l 1 eStr words) none], .cl 166 [.pt 26 [.l 1 eStr words]], True⟩
theorem ok137 (words : List ByteArray) : (S137 words).ok Tryz.prog 137 :=
 fnG_ok mixed (fn := Tryz.f137) (ct := .seq .no (.seq .no .no)) Tryz.func137 (fun (_ : True) => (fun hF : (() : Unit) = (F137 words) => ai (Imps.refl [.l 1 eStr words]) trivial) rfl) (by kernel_rfl)
structure formR where
 word : ByteArray
 key : Int
 checks : SV
 deriving Inhabited
def eformR (x : formR) : List Dat := [.v (.string x.word), .v (vI x.key), .v (sv x.checks)]
def F140 (f : formR) (p1 : ByteArray) : Bool :=
 (!(f.word.toList == p1.toList))
def S140 (f : formR) (p1 : ByteArray) : Spec := ⟨[.r (.g (eformR f)), .rp ([.v (.string p1)])], .v (.bool (F140 f p1)), True⟩
theorem ok140 (f : formR) (p1 : ByteArray) : (S140 f p1).ok Tryz.prog 140 :=
 fnG_ok mixed (fn := Tryz.f140) (ct := .seq .no (.seq .no .no)) Tryz.func140 (fun (_ : True) => (fun hF : ((!(f.word.toList == p1.toList)) : Bool) = (F140 f p1) => ai (congrArg (fun r : Bool => (.bool r : Value)) hF) trivial) rfl) (by kernel_rfl)
def fsQ131 (Q : formR → Prop) (p : formR → Bool) : FnSpec := ⟨formR, fun i => [.g (pxH (eformR i) (Q i))], fun i => .bool (p i)⟩
def F167_s0 (s : List formR) (f : formR → Bool) : Int → Lp Int Int := fun v8 =>
 bif (decide (v8 < (s.length : Int))) then (bif (f (s.getD (Int.toNat v8) default)) then (.ret v8) else (.next (v8 + 1))) else (.done v8)
def F167 (s : List formR) (f : formR → Bool) : Int :=
 (runL (F167_s0 s f) ((Int.toNat ((s.length : Int) - 0)) + 1) 0).fin (fun r => r) (fun v8 => (-1))
def S167 (R : Int) (s : List formR) (f : formR → Bool) (Qf : formR → Prop) : Spec := ⟨[.r (.c (.l 3 eformR s)), .fn (fsQ131 Qf f)], .v (vI R), (∀ k : Nat, k < s.length → Qf (s.getD k default))⟩
theorem ok167 (s : List formR) (f : formR → Bool) (Qf : formR → Prop) : (S167 (F167 s f) s f Qf).ok Tryz.prog 167 false :=
 fnG_ok mixed (fn := Tryz.f167) (ct := .seqk [(0, 0)] .no (.seq (.seqk [(0, 0)] .no (.blk (.loop (ι := Nat × Int) (fun i => (fun (v8 : Int) => (⟨[(0, some (.h 0 0)), (1, some (.h 1 0)), (7, some (.v (vI (s.length : Int)))), (8, some (.v (vI v8)))], [(0, some (.shr none (.l 3 eformR s))), (1, some (.fn (fsQ131 Qf f)))], 2⟩ : St)) i.2) (fun i => runL (F167_s0 s f) i.1 i.2 = (runL (F167_s0 s f) ((Int.toNat ((s.length : Int) - 0)) + 1) 0) ∧ (fun (v8 : Int) => (Int.toNat ((s.length : Int) - v8) < i.1 ∧ (0 : Int) ≤ v8)) i.2) (fun i => i.1) (((Int.toNat ((s.length : Int) - 0)) + 1), 0) (fun i => (fun (v8 : Int) => (.seq .no (.seq (.cond .no .no) (.seq (.blk (.seq .no (.seq (.reg [(5, .fnv (fsQ131 Qf f) (s.getD (Int.toNat v8) default))]) (.cond (.seq .no .no) .no)))) (.reg [(0, .bnd)]))))) i.2)))) (.seq .no .no))) Tryz.func167 (fun (hpre0 : ∀ k : Nat, k < s.length → Qf (s.getD k default)) => kn s fun _ => kn s fun _ => ai (ai rfl (ai rfl (ai ir (ai rfl (ai (rfl : runL (F167_s0 s f) ((Int.toNat ((s.length : Int) - 0)) + 1) 0 = (runL (F167_s0 s f) ((Int.toNat ((s.length : Int) - 0)) + 1) 0)) (ai (Nat.lt_succ_self _ : Int.toNat ((s.length : Int) - 0) < ((Int.toNat ((s.length : Int) - 0)) + 1)) (by omega : (0 : Int) ≤ 0)))))) : ((.int .i64 (s.length : Int) : Value) = .int .i64 (s.length : Int)) ∧ ((.int .i64 0 : Value) = .int .i64 0) ∧ (Imp (.l 3 eformR s) (.l 3 eformR s)) ∧ (fsQ131 Qf f = fsQ131 Qf f) ∧ (runL (F167_s0 s f) ((Int.toNat ((s.length : Int) - 0)) + 1) 0 = (runL (F167_s0 s f) ((Int.toNat ((s.length : Int) - 0)) + 1) 0) ∧ Int.toNat ((s.length : Int) - 0) < ((Int.toNat ((s.length : Int) - 0)) + 1) ∧ (0 : Int) ≤ 0)) (fun (i0 : Nat × Int) (hi0 : runL (F167_s0 s f) i0.1 i0.2 = (runL (F167_s0 s f) ((Int.toNat ((s.length : Int) - 0)) + 1) 0) ∧ (fun (v8 : Int) => (Int.toNat ((s.length : Int) - v8) < i0.1 ∧ (0 : Int) ≤ v8)) i0.2) => (fun (m0 : Nat) (v8 : Int) (hI0 : runL (F167_s0 s f) (m0 + 1) v8 = (runL (F167_s0 s f) ((Int.toNat ((s.length : Int) - 0)) + 1) 0)) (_ : Int.toNat ((s.length : Int) - v8) < m0 + 1) (hl0 : m0 < i0.1) (_ : (0 : Int) ≤ v8) => ifd (v8 < (s.length : Int)) (fun h2 _ => ai (by omega : ib v8 s) (ai (Eq.refl (fsQ131 Qf f)) (ai (Imps.pxH (ds := eformR (s.getD (Int.toNat v8) default)) (hpre0 (Int.toNat v8) (by omega))) (ifb (f (s.getD (Int.toNat v8) default)) (fun h3 => (fun hF : (v8 : Int) = (F167 s f) => ai (congrArg (fun r : Int => (.int .i64 r : Value)) hF) trivial) (finR (runL_ret hI0 (condT h2 (condT h3 rfl))) rfl)) (fun h3 => ai (iok (v8 + 1) (by omega)) (Exists.intro (p := fun j : Nat × Int => (fun (v8_ : Int) => (((.int .i64 (s.length : Int) : Value) = .int .i64 (s.length : Int)) ∧ ((.int .i64 (v8 + 1) : Value) = .int .i64 v8_) ∧ (Imp (.l 3 eformR s) (.l 3 eformR s)) ∧ (fsQ131 Qf f = fsQ131 Qf f) ∧ ((runL (F167_s0 s f) j.1 j.2 = (runL (F167_s0 s f) ((Int.toNat ((s.length : Int) - 0)) + 1) 0) ∧ Int.toNat ((s.length : Int) - v8_) < j.1 ∧ (0 : Int) ≤ v8_) ∧ j.1 < i0.1))) j.2) (m0, (v8 + 1)) (ai rfl (ai rfl (ai ir (ai rfl (ai (ai (runL_next hI0 (condT h2 (condF h3 rfl))) (ai (by omega : Int.toNat ((s.length : Int) - (v8 + 1)) < m0) (by omega : (0 : Int) ≤ (v8 + 1)))) hl0))))))))))) (fun h2 _ => (fun hD0_4 : (runL (F167_s0 s f) ((Int.toNat ((s.length : Int) - 0)) + 1) 0) = Lp.done v8 => (fun hF : ((-1) : Int) = (F167 s f) => ai (congrArg (fun r : Int => (.int .i64 r : Value)) hF) trivial) (finD hD0_4 rfl)) (runL_done hI0 (condF h2 rfl)))) (i0.1 - 1) i0.2 (hd1 hi0.1 hi0.2.1) (hd2 hi0.2.1) (hd3 hi0.2.1) hi0.2.2)) (by kernel_rfl)
theorem as167 (s : List formR) (f : formR → Bool) : F167 s f = (idxI f s) := by
 exact idx_loop f s (F167_s0 s f) (fun i => rfl)
theorem oa167 (s : List formR) (f : formR → Bool) (Qf : formR → Prop) : (S167 (idxI f s) s f Qf).ok Tryz.prog 167 false := by
 intro hp; have h := ok167 s f Qf hp; rw [as167 s f] at h; exact h
theorem g167_0 (s : List formR) (f : formR → Bool) : (idxI f s) < (s.length : Int) := by
 exact idxI_lt f s
theorem g167_1 (s : List formR) (f : formR → Bool) : -1 ≤ (idxI f s) := by
 (show -1 ≤ idxI f s; unfold idxI; cases first (fun k => f (s.getD k default)) s.length <;> simp only [oix] <;> omega)
def F139_s0 (s : List formR) (del : formR → Bool) : (Int × Int × List formR) → Lp (Int × Int × List formR) (List formR) := fun (i41, j1, xs) =>
 bif (decide (j1 < (xs.length : Int))) then (bif (!(del (xs.getD (Int.toNat j1) default))) then (.next ((i41 + 1), (j1 + 1), (xs.set (i41).toNat (xs.getD (Int.toNat j1) default)))) else (.next (i41, (j1 + 1), xs))) else (.done (i41, j1, xs))
def F139_j0 (s : List formR) (del : formR → Bool) : Lp (List formR × Int) (List formR) :=
 (runL (F139_s0 s del) ((Int.toNat ((s.length : Int) - ((idxI del s) + 1))) + 1) ((idxI del s), ((idxI del s) + 1), s)).fin Lp.ret (fun (i41, j1, xs) => .done (xs, i41))
def F139 (s : List formR) (del : formR → Bool) : List formR :=
 bif ((idxI del s) == (-1)) then s else ((F139_j0 s del).fin (fun r => r) (fun (s1, i40) => ((s1.take (Int.toNat i40) ++ List.replicate (s1.drop (Int.toNat i40)).length ((⟨(⟨#[]⟩ : ByteArray), 0, (⟨none, 0, 0⟩ : SV)⟩ : formR) : formR) ++ s1.drop ((Int.toNat i40) + (s1.drop (Int.toNat i40)).length)).take (Int.toNat i40))))
def S139 (R : List formR) (s : List formR) (del : formR → Bool) (Qdel : formR → Prop) : Spec := ⟨[.ow (.l 3 eformR s) none, .fn (fsQ131 Qdel del)], .ow (.l 3 eformR R), s.length ≤ 1000000000 ∧ (∀ k : Nat, k < s.length → Qdel (s.getD k default))⟩
theorem ok139 (s : List formR) (del : formR → Bool) (Qdel : formR → Prop) : (S139 (F139 s del) s del Qdel).ok Tryz.prog 139 false :=
 fnG_ok mixed (fn := Tryz.f139) (ct := .seqk [(0, 0)] .no (.seq (.reg [(2, .call 167 (S167 (idxI del s) s del Qdel) (oa167 s del Qdel) none)]) (.seq (.seq .no (.cond (.seq .no .no) .no)) (.cut (ι := List formR × Int) (fun j => (fun (s1 : List formR) (i40 : Int) => (⟨[(0, some (.h 0 0)), (5, some (.v (vI i40)))], [(0, some (.own 0 (.l 3 eformR s1)))], 1⟩ : St)) j.1 j.2) (fun j => (fun (s1 : List formR) (i40 : Int) => ((F139_j0 s del) = Lp.done j ∧ (0 ≤ i40 ∧ i40 ≤ (s1.length : Int)))) j.1 j.2) (.seqk [(0, 0)] (.reg [(1, .bnd)]) (.blk (.loop (ι := Nat × (Int × Int × List formR)) (fun i => (fun (i41 : Int) (j1 : Int) (xs : List formR) => (⟨[(0, some (.h 0 0)), (1, some (.h 1 0)), (5, some (.v (vI i41))), (6, some (.v (vI j1)))], [(0, some (.own 0 (.l 3 eformR xs))), (1, some (.fn (fsQ131 Qdel del)))], 2⟩ : St)) i.2.1 i.2.2.1 i.2.2.2) (fun i => runL (F139_s0 s del) i.1 i.2 = (runL (F139_s0 s del) ((Int.toNat ((s.length : Int) - ((idxI del s) + 1))) + 1) ((idxI del s), ((idxI del s) + 1), s)) ∧ (fun (i41 : Int) (j1 : Int) (xs : List formR) => (Int.toNat ((xs.length : Int) - j1) < i.1 ∧ (0 ≤ i41 ∧ i41 < j1) ∧ j1 ≤ (xs.length : Int) ∧ xs.length ≤ 1000000000 ∧ (∀ k : Nat, j1 ≤ (k : Int) → k < xs.length → Qdel (xs.getD k default)) ∧ xs.length = s.length)) i.2.1 i.2.2.1 i.2.2.2) (fun i => i.1) (((Int.toNat ((s.length : Int) - ((idxI del s) + 1))) + 1), ((idxI del s), ((idxI del s) + 1), s)) (fun i => (fun (i41 : Int) (j1 : Int) (xs : List formR) => (.seq (.seq .no (.cond .no .no)) (.seq (.blk (.seq .no (.seq (.reg [(2, .fnv (fsQ131 Qdel del) (xs.getD (Int.toNat j1) default))]) (.cond (.seq (.reg [(4, .dat (.l 3 eformR (xs.set (i41).toNat (xs.getD (Int.toNat j1) default))))]) (.reg [(1, .bnd)])) .no)))) (.reg [(1, .bnd)])))) i.2.1 i.2.2.1 i.2.2.2)))) (fun j => (fun (s1 : List formR) (i40 : Int) => (.seq (.reg [(2, .part), (3, .dat (.l 3 eformR (s1.take (Int.toNat i40) ++ List.replicate (s1.drop (Int.toNat i40)).length ((⟨w13_, 0, (⟨none, 0, 0⟩ : SV)⟩ : formR) : formR) ++ s1.drop ((Int.toNat i40) + (s1.drop (Int.toNat i40)).length))))]) (.seq (.reg [(2, .own)]) .no))) j.1 j.2))))) Tryz.func139 (fun (hp : s.length ≤ 1000000000 ∧ (∀ k : Nat, k < s.length → Qdel (s.getD k default))) => have hpre0 := hp.1; have hpre1 := hp.2; kn s fun _ => ai (by assumption : ∀ k : Nat, k < s.length → Qdel (s.getD k default)) (ai (Imp.refl (.l 3 eformR s)) (ai (Eq.refl (fsQ131 Qdel del)) (have gv1 : (idxI del s) < (s.length : Int) := g167_0 s del; have gv2 : -1 ≤ (idxI del s) := g167_1 s del; ife (idxI del s) (-1) (fun h3 _ => (fun hF : (s : List formR) = (F139 s del) => ai (Imp.of_eq (congrArg (fun r : List formR => Dat.l 3 eformR r) hF)) trivial) (condT h3 rfl)) (fun h3 _ => ai (ai (iok ((idxI del s) + 1) (by omega)) (kn s fun _ => ai (ai rfl (ai rfl (ai ir (ai rfl (ai (rfl : runL (F139_s0 s del) ((Int.toNat ((s.length : Int) - ((idxI del s) + 1))) + 1) ((idxI del s), ((idxI del s) + 1), s) = (runL (F139_s0 s del) ((Int.toNat ((s.length : Int) - ((idxI del s) + 1))) + 1) ((idxI del s), ((idxI del s) + 1), s))) (ai (Nat.lt_succ_self _ : Int.toNat ((s.length : Int) - ((idxI del s) + 1)) < ((Int.toNat ((s.length : Int) - ((idxI del s) + 1))) + 1)) (ai (by omega : 0 ≤ (idxI del s) ∧ (idxI del s) < ((idxI del s) + 1)) (ai (by omega : ((idxI del s) + 1) ≤ (s.length : Int)) (ai (by omega : s.length ≤ 1000000000) (ai (by (intro k hk hk2; exact (by assumption : ∀ k : Nat, k < s.length → Qdel (s.getD k default)) k hk2) : ∀ k : Nat, ((idxI del s) + 1) ≤ (k : Int) → k < s.length → Qdel (s.getD k default)) (by omega : s.length = s.length)))))))))) : ((.int .i64 (idxI del s) : Value) = .int .i64 (idxI del s)) ∧ ((.int .i64 ((idxI del s) + 1) : Value) = .int .i64 ((idxI del s) + 1)) ∧ (Imp (.l 3 eformR s) (.l 3 eformR s)) ∧ (fsQ131 Qdel del = fsQ131 Qdel del) ∧ (runL (F139_s0 s del) ((Int.toNat ((s.length : Int) - ((idxI del s) + 1))) + 1) ((idxI del s), ((idxI del s) + 1), s) = (runL (F139_s0 s del) ((Int.toNat ((s.length : Int) - ((idxI del s) + 1))) + 1) ((idxI del s), ((idxI del s) + 1), s)) ∧ Int.toNat ((s.length : Int) - ((idxI del s) + 1)) < ((Int.toNat ((s.length : Int) - ((idxI del s) + 1))) + 1) ∧ (0 ≤ (idxI del s) ∧ (idxI del s) < ((idxI del s) + 1)) ∧ ((idxI del s) + 1) ≤ (s.length : Int) ∧ s.length ≤ 1000000000 ∧ (∀ k : Nat, ((idxI del s) + 1) ≤ (k : Int) → k < s.length → Qdel (s.getD k default)) ∧ s.length = s.length)) (fun (i0 : Nat × (Int × Int × List formR)) (hi0 : runL (F139_s0 s del) i0.1 i0.2 = (runL (F139_s0 s del) ((Int.toNat ((s.length : Int) - ((idxI del s) + 1))) + 1) ((idxI del s), ((idxI del s) + 1), s)) ∧ (fun (i41 : Int) (j1 : Int) (xs : List formR) => (Int.toNat ((xs.length : Int) - j1) < i0.1 ∧ (0 ≤ i41 ∧ i41 < j1) ∧ j1 ≤ (xs.length : Int) ∧ xs.length ≤ 1000000000 ∧ (∀ k : Nat, j1 ≤ (k : Int) → k < xs.length → Qdel (xs.getD k default)) ∧ xs.length = s.length)) i0.2.1 i0.2.2.1 i0.2.2.2) => (fun (m0 : Nat) (i41 : Int) (j1 : Int) (xs : List formR) (hI0 : runL (F139_s0 s del) (m0 + 1) (i41, j1, xs) = (runL (F139_s0 s del) ((Int.toNat ((s.length : Int) - ((idxI del s) + 1))) + 1) ((idxI del s), ((idxI del s) + 1), s))) (_ : Int.toNat ((xs.length : Int) - j1) < m0 + 1) (hl0 : m0 < i0.1) (_ : 0 ≤ i41 ∧ i41 < j1) (_ : j1 ≤ (xs.length : Int)) (_ : xs.length ≤ 1000000000) (_ : ∀ k : Nat, j1 ≤ (k : Int) → k < xs.length → Qdel (xs.getD k default)) (_ : xs.length = s.length) => ifd (j1 < (xs.length : Int)) (fun h5 _ => ai (by omega : ib j1 xs) (ai (Eq.refl (fsQ131 Qdel del)) (ai (Imps.pxH (ds := eformR (xs.getD (Int.toNat j1) default)) ((by assumption : ∀ k : Nat, j1 ≤ (k : Int) → k < xs.length → Qdel (xs.getD k default)) (Int.toNat j1) (by omega) (by omega))) (ifb (!(del (xs.getD (Int.toNat j1) default))) (fun h6 => have _ := (notET h6); ai (by omega : ib i41 xs) (ai (setr 3 eformR xs (i41).toNat (xs.getD (Int.toNat j1) default)) (ai (iok (i41 + 1) (by omega)) (ai (iok (j1 + 1) (by omega)) (Exists.intro (p := fun j : Nat × (Int × Int × List formR) => (fun (i41_ : Int) (j1_ : Int) (xs_ : List formR) => (((.int .i64 (i41 + 1) : Value) = .int .i64 i41_) ∧ ((.int .i64 (j1 + 1) : Value) = .int .i64 j1_) ∧ (Imp (.l 3 eformR (xs.set (i41).toNat (xs.getD (Int.toNat j1) default))) (.l 3 eformR xs_)) ∧ (fsQ131 Qdel del = fsQ131 Qdel del) ∧ ((runL (F139_s0 s del) j.1 j.2 = (runL (F139_s0 s del) ((Int.toNat ((s.length : Int) - ((idxI del s) + 1))) + 1) ((idxI del s), ((idxI del s) + 1), s)) ∧ Int.toNat ((xs_.length : Int) - j1_) < j.1 ∧ (0 ≤ i41_ ∧ i41_ < j1_) ∧ j1_ ≤ (xs_.length : Int) ∧ xs_.length ≤ 1000000000 ∧ (∀ k : Nat, j1_ ≤ (k : Int) → k < xs_.length → Qdel (xs_.getD k default)) ∧ xs_.length = s.length) ∧ j.1 < i0.1))) j.2.1 j.2.2.1 j.2.2.2) (m0, ((i41 + 1), (j1 + 1), (xs.set (i41).toNat (xs.getD (Int.toNat j1) default)))) (ai rfl (ai rfl (ai ir (ai rfl (ai (ai (runL_next hI0 (condT h5 (condT h6 rfl))) (ai (by (simp only [lens, ib] at * <;> omega) : Int.toNat (((xs.set (i41).toNat (xs.getD (Int.toNat j1) default)).length : Int) - (j1 + 1)) < m0) (ai (by omega : 0 ≤ (i41 + 1) ∧ (i41 + 1) < (j1 + 1)) (ai (by (simp only [lens, ib] at * <;> omega) : (j1 + 1) ≤ ((xs.set (i41).toNat (xs.getD (Int.toNat j1) default)).length : Int)) (ai (by (simp only [lens, ib] at * <;> omega) : (xs.set (i41).toNat (xs.getD (Int.toNat j1) default)).length ≤ 1000000000) (ai (by (intro k hk hk2; (rw [getD_set_ne _ _ _ _ (by omega)]; exact (by assumption : ∀ k : Nat, j1 ≤ (k : Int) → k < xs.length → Qdel (xs.getD k default)) k (by omega) (by simpa using hk2))) : ∀ k : Nat, (j1 + 1) ≤ (k : Int) → k < (xs.set (i41).toNat (xs.getD (Int.toNat j1) default)).length → Qdel ((xs.set (i41).toNat (xs.getD (Int.toNat j1) default)).getD k default)) (by (simp only [lens, ib] at * <;> omega) : (xs.set (i41).toNat (xs.getD (Int.toNat j1) default)).length = s.length))))))) hl0)))))))))) (fun h6 => have _ := (notEF h6); ai (iok (j1 + 1) (by omega)) (Exists.intro (p := fun j : Nat × (Int × Int × List formR) => (fun (i41_ : Int) (j1_ : Int) (xs_ : List formR) => (((.int .i64 i41 : Value) = .int .i64 i41_) ∧ ((.int .i64 (j1 + 1) : Value) = .int .i64 j1_) ∧ (Imp (.l 3 eformR xs) (.l 3 eformR xs_)) ∧ (fsQ131 Qdel del = fsQ131 Qdel del) ∧ ((runL (F139_s0 s del) j.1 j.2 = (runL (F139_s0 s del) ((Int.toNat ((s.length : Int) - ((idxI del s) + 1))) + 1) ((idxI del s), ((idxI del s) + 1), s)) ∧ Int.toNat ((xs_.length : Int) - j1_) < j.1 ∧ (0 ≤ i41_ ∧ i41_ < j1_) ∧ j1_ ≤ (xs_.length : Int) ∧ xs_.length ≤ 1000000000 ∧ (∀ k : Nat, j1_ ≤ (k : Int) → k < xs_.length → Qdel (xs_.getD k default)) ∧ xs_.length = s.length) ∧ j.1 < i0.1))) j.2.1 j.2.2.1 j.2.2.2) (m0, (i41, (j1 + 1), xs)) (ai rfl (ai rfl (ai ir (ai rfl (ai (ai (runL_next hI0 (condT h5 (condF h6 rfl))) (ai (by omega : Int.toNat ((xs.length : Int) - (j1 + 1)) < m0) (ai (by omega : 0 ≤ i41 ∧ i41 < (j1 + 1)) (ai (by omega : (j1 + 1) ≤ (xs.length : Int)) (ai (by omega : xs.length ≤ 1000000000) (ai (by (intro k hk hk2; exact (by assumption : ∀ k : Nat, j1 ≤ (k : Int) → k < xs.length → Qdel (xs.getD k default)) k (by omega) hk2) : ∀ k : Nat, (j1 + 1) ≤ (k : Int) → k < xs.length → Qdel (xs.getD k default)) (by omega : xs.length = s.length))))))) hl0))))))))))) (fun h5 _ => (fun hD0_7 : (runL (F139_s0 s del) ((Int.toNat ((s.length : Int) - ((idxI del s) + 1))) + 1) ((idxI del s), ((idxI del s) + 1), s)) = Lp.done (i41, j1, xs) => Exists.intro (p := fun j : List formR × Int => (fun (s1_ : List formR) (i40_ : Int) => (((.int .i64 i41 : Value) = .int .i64 i40_) ∧ (Imp (.l 3 eformR xs) (.l 3 eformR s1_)) ∧ (F139_j0 s del) = Lp.done j ∧ (0 ≤ i40_ ∧ i40_ ≤ (s1_.length : Int)))) j.1 j.2) (xs, i41) (ai rfl (ai ir (ai (Eq.symm (finD hD0_7 rfl)) (by omega : 0 ≤ i41 ∧ i41 ≤ (xs.length : Int)))))) (runL_done hI0 (condF h5 rfl)))) (i0.1 - 1) i0.2.1 i0.2.2.1 i0.2.2.2 (hd1 hi0.1 hi0.2.1) (hd2 hi0.2.1) (hd3 hi0.2.1) hi0.2.2.1 hi0.2.2.2.1 hi0.2.2.2.2.1 hi0.2.2.2.2.2.1 hi0.2.2.2.2.2.2))) (fun (j : List formR × Int) (hj : (fun (s1 : List formR) (i40 : Int) => ((F139_j0 s del) = Lp.done j ∧ (0 ≤ i40 ∧ i40 ≤ (s1.length : Int)))) j.1 j.2) => (fun (s1 : List formR) (i40 : Int) (hJ0_8 : (F139_j0 s del) = Lp.done (s1, i40)) (_ : 0 ≤ i40 ∧ i40 ≤ (s1.length : Int)) => ai (by omega : 0 ≤ i40 ∧ i40 ≤ (s1.length : Int) ∧ (s1.length : Int) ≤ (s1.length : Int)) (ai (ClearOK.mk eformR s1 ((⟨w13_, 0, (⟨none, 0, 0⟩ : SV)⟩ : formR) : formR) rfl (fun y e he => by simp only [eformR, List.mem_cons, List.not_mem_nil, or_false] at he; rcases he with rfl | rfl | rfl <;> exact ⟨_, rfl⟩) : ClearOK (.l 3 eformR s1) (Int.toNat i40) (s1.drop (Int.toNat i40)).length 3 [.string w13_, .int .i64 0, .slice none 0 0] (.l 3 eformR (s1.take (Int.toNat i40) ++ List.replicate (s1.drop (Int.toNat i40)).length ((⟨w13_, 0, (⟨none, 0, 0⟩ : SV)⟩ : formR) : formR) ++ s1.drop ((Int.toNat i40) + (s1.drop (Int.toNat i40)).length)))) (ai (by (simp only [lens, ib] at * <;> omega) : 0 ≤ (0 : Int) ∧ (0 : Int) ≤ i40 ∧ i40 ≤ ((s1.take (Int.toNat i40) ++ List.replicate (s1.drop (Int.toNat i40)).length ((⟨w13_, 0, (⟨none, 0, 0⟩ : SV)⟩ : formR) : formR) ++ s1.drop ((Int.toNat i40) + (s1.drop (Int.toNat i40)).length)).length : Int)) ((fun hF : (((s1.take (Int.toNat i40) ++ List.replicate (s1.drop (Int.toNat i40)).length ((⟨w13_, 0, (⟨none, 0, 0⟩ : SV)⟩ : formR) : formR) ++ s1.drop ((Int.toNat i40) + (s1.drop (Int.toNat i40)).length)).take (Int.toNat i40)) : List formR) = (F139 s del) => ai (Imp.of_eq (congrArg (fun r : List formR => Dat.l 3 eformR r) hF)) trivial) (condF h3 (finD hJ0_8 rfl)))))) j.1 j.2 hj.1 hj.2)))))) (by kernel_rfl)
theorem as139 (s : List formR) (del : formR → Bool) : F139 s del = (s.filter (fun x => !(del x))) := by
 exact del_loop del s _ (F139_s0 s del) (fun i j xs => rfl)
theorem oa139 (s : List formR) (del : formR → Bool) (Qdel : formR → Prop) : (S139 (s.filter (fun x => !(del x))) s del Qdel).ok Tryz.prog 139 false := by
 intro hp; have h := ok139 s del Qdel hp; rw [as139 s del] at h; exact h
def fsB64 (p : ByteArray → Bool) : FnSpec := ⟨ByteArray, fun i => [.c (.x (BX i 1048576))], fun i => .bool (p i)⟩
def eFn64 (p : ByteArray → Bool) : List Dat := [.x (FnX Tryz.prog (fsB64 p))]
structure form where
 word : ByteArray
 key : Int
 checks : List (ByteArray → Bool)
 deriving Inhabited
def eform (x : form) : List Dat := [.v (.string x.word), .v (vI x.key), .l 1 eFn64 x.checks]
theorem kc133 (low : Int) (high : Int) {K_ : Prop} (k_ : K_) : (True) ∧ (Imp (.v (vI low)) (.v (vI low))) ∧ (Imp (.v (vI high)) (.v (vI high))) ∧ K_ := ⟨trivial, Imp.refl _, Imp.refl _, k_⟩
theorem kc137 (words : List ByteArray) {K_ : Prop} (k_ : K_) : (True) ∧ (Imp (.l 1 eStr words) (.l 1 eStr words)) ∧ K_ := ⟨trivial, Imp.refl _, k_⟩
abbrev kh133f (low : Int) (high : Int) : Hint false Tryz.prog := .call 133 (S133 low high) ((ok133 low high).to false) none
abbrev kh137f (words : List ByteArray) : Hint false Tryz.prog := .call 137 (S137 words) ((ok137 words).to false) none
def raw87 (x : Nat → SV) : List formR := [⟨(⟨#[104, 111, 115, 116]⟩ : ByteArray), 1, x 0⟩, ⟨(⟨#[117, 115, 101, 114]⟩ : ByteArray), 2, x 1⟩, ⟨(⟨#[112, 111, 114, 116]⟩ : ByteArray), 2, x 2⟩, ⟨(⟨#[112, 111, 114, 116]⟩ : ByteArray), 2, x 3⟩, ⟨(⟨#[114, 117, 108, 101]⟩ : ByteArray), 3, x 4⟩, ⟨(⟨#[114, 111, 117, 116, 101]⟩ : ByteArray), 3, x 5⟩, ⟨(⟨#[112, 101, 101, 114]⟩ : ByteArray), 2, x 6⟩, ⟨(⟨#[110, 97, 116]⟩ : ByteArray), 1, x 7⟩, ⟨(⟨#[100, 111, 111, 114]⟩ : ByteArray), 3, x 8⟩]
def all87 : List form := [⟨(⟨#[104, 111, 115, 116]⟩ : ByteArray), 1, [(fun x0 => F134 x0)]⟩, ⟨(⟨#[117, 115, 101, 114]⟩ : ByteArray), 2, [(fun x0 => F134 x0), (fun x0 => F135 x0)]⟩, ⟨(⟨#[112, 111, 114, 116]⟩ : ByteArray), 2, [(fun x0 => F165 x0 0 7), (fun x0 => F136 x0)]⟩, ⟨(⟨#[112, 111, 114, 116]⟩ : ByteArray), 2, [(fun x0 => F165 x0 0 7), (fun x0 => F136 x0), (fun x0 => F166 x0 ([(⟨#[105, 110]⟩ : ByteArray)] : List ByteArray)), (fun x0 => F134 x0)]⟩, ⟨(⟨#[114, 117, 108, 101]⟩ : ByteArray), 3, [(fun x0 => F134 x0), (fun x0 => F165 x0 0 99), (fun x0 => F166 x0 ([(⟨#[112, 101, 114, 109, 105, 116]⟩ : ByteArray), (⟨#[100, 101, 110, 121]⟩ : ByteArray)] : List ByteArray)), (fun x0 => F136 x0), (fun x0 => F136 x0), (fun x0 => F165 x0 0 7)]⟩, ⟨(⟨#[114, 111, 117, 116, 101]⟩ : ByteArray), 3, [(fun x0 => F136 x0), (fun x0 => F138 x0)]⟩, ⟨(⟨#[112, 101, 101, 114]⟩ : ByteArray), 2, [(fun x0 => F138 x0), (fun x0 => F165 x0 1 9), (fun x0 => F165 x0 1 999999)]⟩, ⟨(⟨#[110, 97, 116]⟩ : ByteArray), 1, [(fun x0 => F136 x0), (fun x0 => F138 x0), (fun x0 => F165 x0 1 65535), (fun x0 => F165 x0 1 65535)]⟩, ⟨(⟨#[100, 111, 111, 114]⟩ : ByteArray), 3, [(fun x0 => F165 x0 1 7), (fun x0 => F165 x0 1 65535), (fun x0 => F138 x0), (fun x0 => F165 x0 1 65535)]⟩]
def know87 (x : Nat → SV) : List (Value × Dat) := [(sv (x 0), .l 1 eFn64 [(fun x0 => F134 x0)]), (sv (x 1), .l 1 eFn64 [(fun x0 => F134 x0), (fun x0 => F135 x0)]), (sv (x 2), .l 1 eFn64 [(fun x0 => F165 x0 0 7), (fun x0 => F136 x0)]), (sv (x 3), .l 1 eFn64 [(fun x0 => F165 x0 0 7), (fun x0 => F136 x0), (fun x0 => F166 x0 ([(⟨#[105, 110]⟩ : ByteArray)] : List ByteArray)), (fun x0 => F134 x0)]), (sv (x 4), .l 1 eFn64 [(fun x0 => F134 x0), (fun x0 => F165 x0 0 99), (fun x0 => F166 x0 ([(⟨#[112, 101, 114, 109, 105, 116]⟩ : ByteArray), (⟨#[100, 101, 110, 121]⟩ : ByteArray)] : List ByteArray)), (fun x0 => F136 x0), (fun x0 => F136 x0), (fun x0 => F165 x0 0 7)]), (sv (x 5), .l 1 eFn64 [(fun x0 => F136 x0), (fun x0 => F138 x0)]), (sv (x 6), .l 1 eFn64 [(fun x0 => F138 x0), (fun x0 => F165 x0 1 9), (fun x0 => F165 x0 1 999999)]), (sv (x 7), .l 1 eFn64 [(fun x0 => F136 x0), (fun x0 => F138 x0), (fun x0 => F165 x0 1 65535), (fun x0 => F165 x0 1 65535)]), (sv (x 8), .l 1 eFn64 [(fun x0 => F165 x0 1 7), (fun x0 => F165 x0 1 65535), (fun x0 => F138 x0), (fun x0 => F165 x0 1 65535)])]
def fh134 : FnH Tryz.prog := ⟨true, 134, fsB64 (fun x0 => F134 x0), [], rfl, True, fun i => ok_bx (ok134 i)⟩
theorem ca134 : callable Tryz.prog 134 = true := by kernel_rfl
def fh135 : FnH Tryz.prog := ⟨true, 135, fsB64 (fun x0 => F135 x0), [], rfl, True, fun i => ok_bx (ok135 i)⟩
theorem ca135 : callable Tryz.prog 135 = true := by kernel_rfl
def fh136 : FnH Tryz.prog := ⟨false, 136, fsB64 (fun x0 => F136 x0), [], rfl, True, fun i => ok_bx (ok136 i)⟩
theorem ca136 : callable Tryz.prog 136 = true := by kernel_rfl
def fh138 : FnH Tryz.prog := ⟨false, 138, fsB64 (fun x0 => F138 x0), [], rfl, True, fun i => ok_bx (ok138 i)⟩
theorem ca138 : callable Tryz.prog 138 = true := by kernel_rfl
def fh165 (a b : Int) : FnH Tryz.prog := ⟨false, 165, fsB64 (fun x0 => F165 x0 a b), [.rp [.v (vI a)], .rp [.v (vI b)]], rfl, True, fun i => ok_bx (ok165 i a b)⟩
theorem ca165 : callable Tryz.prog 165 = true := by kernel_rfl
def fh166 (l : List ByteArray) : FnH Tryz.prog := ⟨true, 166, fsB64 (fun x0 => F166 x0 l), [.rp [.l 1 eStr l]], rfl, True, fun i => ok_bx (ok166 i l)⟩
theorem ca166 : callable Tryz.prog 166 = true := by kernel_rfl
theorem hk87_0 (word : ByteArray) : HandOK Tryz.prog 45 (fun _ : Unit => (⟨[(1, some (.p 0 0)), (5, some (.h 1 0)), (8, some (.h 2 0))], [(0, some (.box 9 [.v (.string word)])), (1, some (.arr 9 [.v (.string (⟨#[104, 111, 115, 116]⟩ : ByteArray)), .v (vI 1), .h 2 0, .v (.string (⟨#[117, 115, 101, 114]⟩ : ByteArray)), .v (vI 2), .h 3 0, .v (.string (⟨#[112, 111, 114, 116]⟩ : ByteArray)), .v (vI 2), .h 4 0, .v (.string (⟨#[112, 111, 114, 116]⟩ : ByteArray)), .v (vI 2), .h 7 0, .v (.string (⟨#[114, 117, 108, 101]⟩ : ByteArray)), .v (vI 3), .h 12 0, .v (.string (⟨#[114, 111, 117, 116, 101]⟩ : ByteArray)), .v (vI 3), .h 19 0, .v (.string (⟨#[112, 101, 101, 114]⟩ : ByteArray)), .v (vI 2), .h 20 0, .v (.string (⟨#[110, 97, 116]⟩ : ByteArray)), .v (vI 1), .h 25 0, .v (.string (⟨#[100, 111, 111, 114]⟩ : ByteArray)), .v (vI 3), .h 28 0])), (2, some (.arr 1 [.cl 134 []])), (3, some (.arr 2 [.cl 134 [], .cl 135 []])), (4, some (.arr 2 [.cl 165 [.p 5 0, .p 6 0], .cl 136 []])), (5, some (.box 3 [.v (vI 0)])), (6, some (.box 3 [.v (vI 7)])), (7, some (.arr 4 [.cl 165 [.p 8 0, .p 9 0], .cl 136 [], .cl 166 [.p 10 0], .cl 134 []])), (8, some (.box 3 [.v (vI 0)])), (9, some (.box 3 [.v (vI 7)])), (10, some (.box 26 [.h 11 0])), (11, some (.own 11 (.l 1 eStr ([(⟨#[105, 110]⟩ : ByteArray)] : List ByteArray)))), (12, some (.arr 6 [.cl 134 [], .cl 165 [.p 13 0, .p 14 0], .cl 166 [.p 15 0], .cl 136 [], .cl 136 [], .cl 165 [.p 17 0, .p 18 0]])), (13, some (.box 3 [.v (vI 0)])), (14, some (.box 3 [.v (vI 99)])), (15, some (.box 26 [.h 16 0])), (16, some (.own 16 (.l 1 eStr ([(⟨#[112, 101, 114, 109, 105, 116]⟩ : ByteArray), (⟨#[100, 101, 110, 121]⟩ : ByteArray)] : List ByteArray)))), (17, some (.box 3 [.v (vI 0)])), (18, some (.box 3 [.v (vI 7)])), (19, some (.arr 2 [.cl 136 [], .cl 138 []])), (20, some (.arr 3 [.cl 138 [], .cl 165 [.p 21 0, .p 22 0], .cl 165 [.p 23 0, .p 24 0]])), (21, some (.box 3 [.v (vI 1)])), (22, some (.box 3 [.v (vI 9)])), (23, some (.box 3 [.v (vI 1)])), (24, some (.box 3 [.v (vI 999999)])), (25, some (.arr 4 [.cl 136 [], .cl 138 [], .cl 165 [.p 26 0, .p 27 0], .cl 165 [.p 26 0, .p 27 0]])), (26, some (.box 3 [.v (vI 1)])), (27, some (.box 3 [.v (vI 65535)])), (28, some (.arr 4 [.cl 165 [.p 29 0, .p 30 0], .cl 165 [.p 26 0, .p 27 0], .cl 138 [], .cl 165 [.p 26 0, .p 27 0]])), (29, some (.box 3 [.v (vI 1)])), (30, some (.box 3 [.v (vI 7)]))], 31⟩ : St)) (fun _ => True) (fun x : Nat → SV => (⟨[(1, some (.p 0 0)), (5, some (.h 1 0)), (8, some (.h 2 0))], [(0, some (.box 9 [.v (.string word)])), (1, some (.own 1 (.l 3 eformR (raw87 x)))), (2, some (.own 2 (.x (LX (know87 x)))))], 31⟩ : St)) (fun _ => True) := by
 intro ψ IN w0 w a i _ H
 obtain ⟨β, φ, dom, V⟩ := H
 have R := V.rel
 have hall : allMod (fsG (⟨[(1, some (.p 0 0)), (5, some (.h 1 0)), (8, some (.h 2 0))], [(0, some (.box 9 [.v (.string word)])), (1, some (.arr 9 [.v (.string (⟨#[104, 111, 115, 116]⟩ : ByteArray)), .v (vI 1), .h 2 0, .v (.string (⟨#[117, 115, 101, 114]⟩ : ByteArray)), .v (vI 2), .h 3 0, .v (.string (⟨#[112, 111, 114, 116]⟩ : ByteArray)), .v (vI 2), .h 4 0, .v (.string (⟨#[112, 111, 114, 116]⟩ : ByteArray)), .v (vI 2), .h 7 0, .v (.string (⟨#[114, 117, 108, 101]⟩ : ByteArray)), .v (vI 3), .h 12 0, .v (.string (⟨#[114, 111, 117, 116, 101]⟩ : ByteArray)), .v (vI 3), .h 19 0, .v (.string (⟨#[112, 101, 101, 114]⟩ : ByteArray)), .v (vI 2), .h 20 0, .v (.string (⟨#[110, 97, 116]⟩ : ByteArray)), .v (vI 1), .h 25 0, .v (.string (⟨#[100, 111, 111, 114]⟩ : ByteArray)), .v (vI 3), .h 28 0])), (2, some (.arr 1 [.cl 134 []])), (3, some (.arr 2 [.cl 134 [], .cl 135 []])), (4, some (.arr 2 [.cl 165 [.p 5 0, .p 6 0], .cl 136 []])), (5, some (.box 3 [.v (vI 0)])), (6, some (.box 3 [.v (vI 7)])), (7, some (.arr 4 [.cl 165 [.p 8 0, .p 9 0], .cl 136 [], .cl 166 [.p 10 0], .cl 134 []])), (8, some (.box 3 [.v (vI 0)])), (9, some (.box 3 [.v (vI 7)])), (10, some (.box 26 [.h 11 0])), (11, some (.own 11 (.l 1 eStr ([(⟨#[105, 110]⟩ : ByteArray)] : List ByteArray)))), (12, some (.arr 6 [.cl 134 [], .cl 165 [.p 13 0, .p 14 0], .cl 166 [.p 15 0], .cl 136 [], .cl 136 [], .cl 165 [.p 17 0, .p 18 0]])), (13, some (.box 3 [.v (vI 0)])), (14, some (.box 3 [.v (vI 99)])), (15, some (.box 26 [.h 16 0])), (16, some (.own 16 (.l 1 eStr ([(⟨#[112, 101, 114, 109, 105, 116]⟩ : ByteArray), (⟨#[100, 101, 110, 121]⟩ : ByteArray)] : List ByteArray)))), (17, some (.box 3 [.v (vI 0)])), (18, some (.box 3 [.v (vI 7)])), (19, some (.arr 2 [.cl 136 [], .cl 138 []])), (20, some (.arr 3 [.cl 138 [], .cl 165 [.p 21 0, .p 22 0], .cl 165 [.p 23 0, .p 24 0]])), (21, some (.box 3 [.v (vI 1)])), (22, some (.box 3 [.v (vI 9)])), (23, some (.box 3 [.v (vI 1)])), (24, some (.box 3 [.v (vI 999999)])), (25, some (.arr 4 [.cl 136 [], .cl 138 [], .cl 165 [.p 26 0, .p 27 0], .cl 165 [.p 26 0, .p 27 0]])), (26, some (.box 3 [.v (vI 1)])), (27, some (.box 3 [.v (vI 65535)])), (28, some (.arr 4 [.cl 165 [.p 29 0, .p 30 0], .cl 165 [.p 26 0, .p 27 0], .cl 138 [], .cl 165 [.p 26 0, .p 27 0]])), (29, some (.box 3 [.v (vI 1)])), (30, some (.box 3 [.v (vI 7)]))], 31⟩ : St).fs) [2, 3, 4, 5, 6, 7, 8, 9, 10, 11, 12, 13, 14, 15, 16, 17, 18, 19, 20, 21, 22, 23, 24, 25, 26, 27, 28, 29, 30] = true := rfl
 have hS : ∀ id ∈ [2, 3, 4, 5, 6, 7, 8, 9, 10, 11, 12, 13, 14, 15, 16, 17, 18, 19, 20, 21, 22, 23, 24, 25, 26, 27, 28, 29, 30], ∀ b ∈ φ id, b ∈ [2, 3, 4, 5, 6, 7, 8, 9, 10, 11, 12, 13, 14, 15, 16, 17, 18, 19, 20, 21, 22, 23, 24, 25, 26, 27, 28, 29, 30].flatMap φ := fun id hid b hb => List.mem_flatMap.2 ⟨id, hid, hb⟩
 have hlt := R.flat_lt (allMod_ok hall)
 have e2 := arr_sv R (show fsG _ 2 = _ from rfl)
 have e3 := arr_sv R (show fsG _ 3 = _ from rfl)
 have e4 := arr_sv R (show fsG _ 4 = _ from rfl)
 have e7 := arr_sv R (show fsG _ 7 = _ from rfl)
 have e12 := arr_sv R (show fsG _ 12 = _ from rfl)
 have e19 := arr_sv R (show fsG _ 19 = _ from rfl)
 have e20 := arr_sv R (show fsG _ 20 = _ from rfl)
 have e25 := arr_sv R (show fsG _ 25 = _ from rfl)
 have e28 := arr_sv R (show fsG _ 28 = _ from rfl)
 have he : ([.v (.string (⟨#[104, 111, 115, 116]⟩ : ByteArray)), .v (vI 1), .v (sv (toSV (β 2 0))), .v (.string (⟨#[117, 115, 101, 114]⟩ : ByteArray)), .v (vI 2), .v (sv (toSV (β 3 0))), .v (.string (⟨#[112, 111, 114, 116]⟩ : ByteArray)), .v (vI 2), .v (sv (toSV (β 4 0))), .v (.string (⟨#[112, 111, 114, 116]⟩ : ByteArray)), .v (vI 2), .v (sv (toSV (β 7 0))), .v (.string (⟨#[114, 117, 108, 101]⟩ : ByteArray)), .v (vI 3), .v (sv (toSV (β 12 0))), .v (.string (⟨#[114, 111, 117, 116, 101]⟩ : ByteArray)), .v (vI 3), .v (sv (toSV (β 19 0))), .v (.string (⟨#[112, 101, 101, 114]⟩ : ByteArray)), .v (vI 2), .v (sv (toSV (β 20 0))), .v (.string (⟨#[110, 97, 116]⟩ : ByteArray)), .v (vI 1), .v (sv (toSV (β 25 0))), .v (.string (⟨#[100, 111, 111, 114]⟩ : ByteArray)), .v (vI 3), .v (sv (toSV (β 28 0)))] : List Dat) = [.v (.string (⟨#[104, 111, 115, 116]⟩ : ByteArray)), .v (vI 1), .v (β 2 0), .v (.string (⟨#[117, 115, 101, 114]⟩ : ByteArray)), .v (vI 2), .v (β 3 0), .v (.string (⟨#[112, 111, 114, 116]⟩ : ByteArray)), .v (vI 2), .v (β 4 0), .v (.string (⟨#[112, 111, 114, 116]⟩ : ByteArray)), .v (vI 2), .v (β 7 0), .v (.string (⟨#[114, 117, 108, 101]⟩ : ByteArray)), .v (vI 3), .v (β 12 0), .v (.string (⟨#[114, 111, 117, 116, 101]⟩ : ByteArray)), .v (vI 3), .v (β 19 0), .v (.string (⟨#[112, 101, 101, 114]⟩ : ByteArray)), .v (vI 2), .v (β 20 0), .v (.string (⟨#[110, 97, 116]⟩ : ByteArray)), .v (vI 1), .v (β 25 0), .v (.string (⟨#[100, 111, 111, 114]⟩ : ByteArray)), .v (vI 3), .v (β 28 0)] := by rw [← e2, ← e3, ← e4, ← e7, ← e12, ← e19, ← e20, ← e25, ← e28]
 refine ⟨fun k => toSV (β (([2, 3, 4, 7, 12, 19, 20, 25, 28] : List Nat).getD k 0) 0), trivial, pack3 (bx := [.string word]) (rest := [2, 3, 4, 5, 6, 7, 8, 9, 10, 11, 12, 13, 14, 15, 16, 17, 18, 19, 20, 21, 22, 23, 24, 25, 26, 27, 28, 29, 30]) V rfl ⟨_, rfl, rfl⟩ hall (by decide) (R.ok 2 _ rfl).1 (arr_own R (show fsG _ 1 = _ from rfl) rfl (by decide) (fun _ => rfl) he) (fun hnd _ => ⟨⟨R.all1 2 0, ?_⟩, hnd, hlt⟩)⟩
 exact ⟨RdV.at_sv e2 (arr_fns R (F := fsB64) (show fsG _ 2 = _ from rfl) rfl (by decide) (fun _ => rfl) (hS 2 (by decide)) ⟨_, _, rfl, cl_none fh134 rfl trivial hlt ca134 rfl, rfl⟩),
  RdV.at_sv e3 (arr_fns R (F := fsB64) (show fsG _ 3 = _ from rfl) rfl (by decide) (fun _ => rfl) (hS 3 (by decide)) ⟨_, _, rfl, cl_none fh134 rfl trivial hlt ca134 rfl, ⟨_, _, rfl, cl_none fh135 rfl trivial hlt ca135 rfl, rfl⟩⟩),
  RdV.at_sv e4 (arr_fns R (F := fsB64) (show fsG _ 4 = _ from rfl) rfl (by decide) (fun _ => rfl) (hS 4 (by decide)) ⟨_, _, rfl, cl_two R (fh165 0 7) (show fsG _ 5 = _ from rfl) (show fsG _ 6 = _ from rfl) rfl trivial (hS 5 (by decide)) (hS 6 (by decide)) hlt ca165 rfl rfl rfl, ⟨_, _, rfl, cl_none fh136 rfl trivial hlt ca136 rfl, rfl⟩⟩),
  RdV.at_sv e7 (arr_fns R (F := fsB64) (show fsG _ 7 = _ from rfl) rfl (by decide) (fun _ => rfl) (hS 7 (by decide)) ⟨_, _, rfl, cl_two R (fh165 0 7) (show fsG _ 8 = _ from rfl) (show fsG _ 9 = _ from rfl) rfl trivial (hS 8 (by decide)) (hS 9 (by decide)) hlt ca165 rfl rfl rfl, ⟨_, _, rfl, cl_none fh136 rfl trivial hlt ca136 rfl, ⟨_, _, rfl, cl_own R (fh166 ([(⟨#[105, 110]⟩ : ByteArray)] : List ByteArray)) (show fsG _ 10 = _ from rfl) (show fsG _ 11 = _ from rfl) rfl trivial (hS 10 (by decide)) (hS 11 (by decide)) hlt ca166 rfl, ⟨_, _, rfl, cl_none fh134 rfl trivial hlt ca134 rfl, rfl⟩⟩⟩⟩),
  RdV.at_sv e12 (arr_fns R (F := fsB64) (show fsG _ 12 = _ from rfl) rfl (by decide) (fun _ => rfl) (hS 12 (by decide)) ⟨_, _, rfl, cl_none fh134 rfl trivial hlt ca134 rfl, ⟨_, _, rfl, cl_two R (fh165 0 99) (show fsG _ 13 = _ from rfl) (show fsG _ 14 = _ from rfl) rfl trivial (hS 13 (by decide)) (hS 14 (by decide)) hlt ca165 rfl rfl rfl, ⟨_, _, rfl, cl_own R (fh166 ([(⟨#[112, 101, 114, 109, 105, 116]⟩ : ByteArray), (⟨#[100, 101, 110, 121]⟩ : ByteArray)] : List ByteArray)) (show fsG _ 15 = _ from rfl) (show fsG _ 16 = _ from rfl) rfl trivial (hS 15 (by decide)) (hS 16 (by decide)) hlt ca166 rfl, ⟨_, _, rfl, cl_none fh136 rfl trivial hlt ca136 rfl, ⟨_, _, rfl, cl_none fh136 rfl trivial hlt ca136 rfl, ⟨_, _, rfl, cl_two R (fh165 0 7) (show fsG _ 17 = _ from rfl) (show fsG _ 18 = _ from rfl) rfl trivial (hS 17 (by decide)) (hS 18 (by decide)) hlt ca165 rfl rfl rfl, rfl⟩⟩⟩⟩⟩⟩),
  RdV.at_sv e19 (arr_fns R (F := fsB64) (show fsG _ 19 = _ from rfl) rfl (by decide) (fun _ => rfl) (hS 19 (by decide)) ⟨_, _, rfl, cl_none fh136 rfl trivial hlt ca136 rfl, ⟨_, _, rfl, cl_none fh138 rfl trivial hlt ca138 rfl, rfl⟩⟩),
  RdV.at_sv e20 (arr_fns R (F := fsB64) (show fsG _ 20 = _ from rfl) rfl (by decide) (fun _ => rfl) (hS 20 (by decide)) ⟨_, _, rfl, cl_none fh138 rfl trivial hlt ca138 rfl, ⟨_, _, rfl, cl_two R (fh165 1 9) (show fsG _ 21 = _ from rfl) (show fsG _ 22 = _ from rfl) rfl trivial (hS 21 (by decide)) (hS 22 (by decide)) hlt ca165 rfl rfl rfl, ⟨_, _, rfl, cl_two R (fh165 1 999999) (show fsG _ 23 = _ from rfl) (show fsG _ 24 = _ from rfl) rfl trivial (hS 23 (by decide)) (hS 24 (by decide)) hlt ca165 rfl rfl rfl, rfl⟩⟩⟩),
  RdV.at_sv e25 (arr_fns R (F := fsB64) (show fsG _ 25 = _ from rfl) rfl (by decide) (fun _ => rfl) (hS 25 (by decide)) ⟨_, _, rfl, cl_none fh136 rfl trivial hlt ca136 rfl, ⟨_, _, rfl, cl_none fh138 rfl trivial hlt ca138 rfl, ⟨_, _, rfl, cl_two R (fh165 1 65535) (show fsG _ 26 = _ from rfl) (show fsG _ 27 = _ from rfl) rfl trivial (hS 26 (by decide)) (hS 27 (by decide)) hlt ca165 rfl rfl rfl, ⟨_, _, rfl, cl_two R (fh165 1 65535) (show fsG _ 26 = _ from rfl) (show fsG _ 27 = _ from rfl) rfl trivial (hS 26 (by decide)) (hS 27 (by decide)) hlt ca165 rfl rfl rfl, rfl⟩⟩⟩⟩),
  RdV.at_sv e28 (arr_fns R (F := fsB64) (show fsG _ 28 = _ from rfl) rfl (by decide) (fun _ => rfl) (hS 28 (by decide)) ⟨_, _, rfl, cl_two R (fh165 1 7) (show fsG _ 29 = _ from rfl) (show fsG _ 30 = _ from rfl) rfl trivial (hS 29 (by decide)) (hS 30 (by decide)) hlt ca165 rfl rfl rfl, ⟨_, _, rfl, cl_two R (fh165 1 65535) (show fsG _ 26 = _ from rfl) (show fsG _ 27 = _ from rfl) rfl trivial (hS 26 (by decide)) (hS 27 (by decide)) hlt ca165 rfl rfl rfl, ⟨_, _, rfl, cl_none fh138 rfl trivial hlt ca138 rfl, ⟨_, _, rfl, cl_two R (fh165 1 65535) (show fsG _ 26 = _ from rfl) (show fsG _ 27 = _ from rfl) rfl trivial (hS 26 (by decide)) (hS 27 (by decide)) hlt ca165 rfl rfl rfl, rfl⟩⟩⟩⟩), trivial⟩
theorem hk87_1 (word : ByteArray) (x : Nat → SV) : HandOK Tryz.prog 45 (fun _ : Unit => (⟨[(2, some (.h 0 0)), (8, some (.h 1 0))], [(0, some (.own 0 (.l 3 eformR ((raw87 x).filter (fun x => !((fun (x0 : formR) => F140 x0 word) x)))))), (1, some (.own 1 (.x (LX (know87 x)))))], 2⟩ : St)) (fun _ => True) (fun _ : Unit => (⟨[(2, some (.h 0 0))], [(0, some (.own 0 (.b (.l 3 eform (all87.filter (fun z => z.word.toList == word.toList))))))], 2⟩ : St)) (fun _ => True) := by
 intro ψ IN w0 w a i _ H
 refine ⟨(), trivial, pack1 rfl rfl rfl (fun v y f g h1 h2 => ?_) H⟩
 have hx : RdAll (fun b => b ∈ f ++ g) w (know87 x) := h2.1.2.mono fun b hb => ⟨List.mem_append_right _ hb, rfl⟩
 have hall : Rel2 (fun (y : formR) (z : form) => y.word = z.word ∧ ∀ cs, RdVs (fun b => b ∈ f ++ g) w (eformR y) cs → RdVs (fun b => b ∈ f ++ g) w (eform z) cs) (raw87 x) all87 := ⟨⟨rfl, row3 hx.1⟩, ⟨rfl, row3 hx.2.1⟩, ⟨rfl, row3 hx.2.2.1⟩, ⟨rfl, row3 hx.2.2.2.1⟩, ⟨rfl, row3 hx.2.2.2.2.1⟩, ⟨rfl, row3 hx.2.2.2.2.2.1⟩, ⟨rfl, row3 hx.2.2.2.2.2.2.1⟩, ⟨rfl, row3 hx.2.2.2.2.2.2.2.1⟩, ⟨rfl, row3 hx.2.2.2.2.2.2.2.2.1⟩, trivial⟩
 refine own_reads h1 (fun b hb => List.mem_append_left _ hb) (Rel2.mono (fun a c h => h.2) (Rel2.filter (fun y z h => ?_) hall))
 simp only [F140, h.1, Bool.not_not]
def F87 (word : ByteArray) : List form :=
 (all87.filter (fun z => z.word.toList == word.toList))
def S87 (word : ByteArray) : Spec := ⟨[.r (.c (.v (.string word)))], .ow (.b (.l 3 eform (F87 word))), True⟩
theorem ok87 (word : ByteArray) : (S87 word).ok Tryz.prog 87 false :=
 fnG_ok mixed (fn := Tryz.f87) (ct := .seq .no (.seq (.reg [(0, kh133f 1 65535), (1, kh133f 1 7)]) (.hnd (ι := Unit) (κ := (Nat → SV)) (fun _ => (⟨[(1, some (.p 0 0)), (5, some (.h 1 0)), (8, some (.h 2 0))], [(0, some (.box 9 [.v (.string word)])), (1, some (.arr 9 [.v (.string w4_), .v (vI 1), .h 2 0, .v (.string w10_), .v (vI 2), .h 3 0, .v (.string w7_), .v (vI 2), .h 4 0, .v (.string w7_), .v (vI 2), .h 7 0, .v (.string w9_), .v (vI 3), .h 12 0, .v (.string w8_), .v (vI 3), .h 19 0, .v (.string w6_), .v (vI 2), .h 20 0, .v (.string w5_), .v (vI 1), .h 25 0, .v (.string w3_), .v (vI 3), .h 28 0])), (2, some (.arr 1 [.cl 134 []])), (3, some (.arr 2 [.cl 134 [], .cl 135 []])), (4, some (.arr 2 [.cl 165 [.p 5 0, .p 6 0], .cl 136 []])), (5, some (.box 3 [.v (vI 0)])), (6, some (.box 3 [.v (vI 7)])), (7, some (.arr 4 [.cl 165 [.p 8 0, .p 9 0], .cl 136 [], .cl 166 [.p 10 0], .cl 134 []])), (8, some (.box 3 [.v (vI 0)])), (9, some (.box 3 [.v (vI 7)])), (10, some (.box 26 [.h 11 0])), (11, some (.own 11 (.l 1 eStr ([w16_] : List ByteArray)))), (12, some (.arr 6 [.cl 134 [], .cl 165 [.p 13 0, .p 14 0], .cl 166 [.p 15 0], .cl 136 [], .cl 136 [], .cl 165 [.p 17 0, .p 18 0]])), (13, some (.box 3 [.v (vI 0)])), (14, some (.box 3 [.v (vI 99)])), (15, some (.box 26 [.h 16 0])), (16, some (.own 16 (.l 1 eStr ([w17_, w18_] : List ByteArray)))), (17, some (.box 3 [.v (vI 0)])), (18, some (.box 3 [.v (vI 7)])), (19, some (.arr 2 [.cl 136 [], .cl 138 []])), (20, some (.arr 3 [.cl 138 [], .cl 165 [.p 21 0, .p 22 0], .cl 165 [.p 23 0, .p 24 0]])), (21, some (.box 3 [.v (vI 1)])), (22, some (.box 3 [.v (vI 9)])), (23, some (.box 3 [.v (vI 1)])), (24, some (.box 3 [.v (vI 999999)])), (25, some (.arr 4 [.cl 136 [], .cl 138 [], .cl 165 [.p 26 0, .p 27 0], .cl 165 [.p 26 0, .p 27 0]])), (26, some (.box 3 [.v (vI 1)])), (27, some (.box 3 [.v (vI 65535)])), (28, some (.arr 4 [.cl 165 [.p 29 0, .p 30 0], .cl 165 [.p 26 0, .p 27 0], .cl 138 [], .cl 165 [.p 26 0, .p 27 0]])), (29, some (.box 3 [.v (vI 1)])), (30, some (.box 3 [.v (vI 7)]))], 31⟩ : St)) (fun _ => True) (fun (x : Nat → SV) => (⟨[(1, some (.p 0 0)), (5, some (.h 1 0)), (8, some (.h 2 0))], [(0, some (.box 9 [.v (.string word)])), (1, some (.own 1 (.l 3 eformR (raw87 x)))), (2, some (.own 2 (.x (LX (know87 x)))))], 31⟩ : St)) (fun _ => True) (.reg [(4, kh133f 0 7), (7, kh133f 0 7), (8, .dat (.l 1 eStr ([w16_] : List ByteArray))), (9, kh137f ([w16_] : List ByteArray)), (12, kh133f 0 99), (13, .dat (.l 1 eStr ([w17_, w18_] : List ByteArray))), (14, kh137f ([w17_, w18_] : List ByteArray)), (15, kh133f 0 7), (20, kh133f 1 9), (21, kh133f 1 999999)]) (fun (x : Nat → SV) => .hnd (ι := Unit) (κ := Unit) (fun _ => (⟨[(2, some (.h 0 0)), (8, some (.h 1 0))], [(0, some (.own 0 (.l 3 eformR ((raw87 x).filter (fun x => !((fun (x0 : formR) => F140 x0 word) x)))))), (1, some (.own 1 (.x (LX (know87 x)))))], 2⟩ : St)) (fun _ => True) (fun (_ : Unit) => (⟨[(2, some (.h 0 0))], [(0, some (.own 0 (.b (.l 3 eform (all87.filter (fun z => z.word.toList == word.toList))))))], 2⟩ : St)) (fun _ => True) (.reg [(2, .call 139 (S139 ((raw87 x).filter (fun x => !((fun (x0 : formR) => F140 x0 word) x))) (raw87 x) (fun (x0 : formR) => F140 x0 word) (fun (x0 : formR) => True)) (oa139 (raw87 x) (fun (x0 : formR) => F140 x0 word) (fun (x0 : formR) => True)) (some ⟨true, 140, fsQ131 (fun (x0 : formR) => True) (fun (x0 : formR) => F140 x0 word), [.rp ([.v (.string word)])], rfl, True, fun i => ok_pxH (ok140 i word)⟩))]) (fun (_ : Unit) => .no))))) Tryz.func87 (fun (_ : True) => kc133 1 65535 (kc133 1 7 (ai (kc133 0 7 (kc133 0 7 (ai (bokr 1 eStr ([w16_] : List ByteArray) fun _ => rfl) (kc137 ([w16_] : List ByteArray) (kc133 0 99 (ai (bokr 1 eStr ([w17_, w18_] : List ByteArray) fun _ => rfl) (kc137 ([w17_, w18_] : List ByteArray) (kc133 0 7 (kc133 1 9 (kc133 1 999999 (Exists.intro (p := fun (_ : Unit) => ((.string word : Value) = .string word) ∧ ((.string w4_ : Value) = .string w4_) ∧ ((.int .i64 1 : Value) = .int .i64 1) ∧ ((.string w10_ : Value) = .string w10_) ∧ ((.int .i64 2 : Value) = .int .i64 2) ∧ ((.string w7_ : Value) = .string w7_) ∧ ((.int .i64 2 : Value) = .int .i64 2) ∧ ((.string w7_ : Value) = .string w7_) ∧ ((.int .i64 2 : Value) = .int .i64 2) ∧ ((.string w9_ : Value) = .string w9_) ∧ ((.int .i64 3 : Value) = .int .i64 3) ∧ ((.string w8_ : Value) = .string w8_) ∧ ((.int .i64 3 : Value) = .int .i64 3) ∧ ((.string w6_ : Value) = .string w6_) ∧ ((.int .i64 2 : Value) = .int .i64 2) ∧ ((.string w5_ : Value) = .string w5_) ∧ ((.int .i64 1 : Value) = .int .i64 1) ∧ ((.string w3_ : Value) = .string w3_) ∧ ((.int .i64 3 : Value) = .int .i64 3) ∧ ((.int .i64 0 : Value) = .int .i64 0) ∧ ((.int .i64 7 : Value) = .int .i64 7) ∧ ((.int .i64 0 : Value) = .int .i64 0) ∧ ((.int .i64 7 : Value) = .int .i64 7) ∧ (Imp (.l 1 eStr ([w16_] : List ByteArray)) (.l 1 eStr ([w16_] : List ByteArray))) ∧ ((.int .i64 0 : Value) = .int .i64 0) ∧ ((.int .i64 99 : Value) = .int .i64 99) ∧ (Imp (.l 1 eStr ([w17_, w18_] : List ByteArray)) (.l 1 eStr ([w17_, w18_] : List ByteArray))) ∧ ((.int .i64 0 : Value) = .int .i64 0) ∧ ((.int .i64 7 : Value) = .int .i64 7) ∧ ((.int .i64 1 : Value) = .int .i64 1) ∧ ((.int .i64 9 : Value) = .int .i64 9) ∧ ((.int .i64 1 : Value) = .int .i64 1) ∧ ((.int .i64 999999 : Value) = .int .i64 999999) ∧ ((.int .i64 1 : Value) = .int .i64 1) ∧ ((.int .i64 65535 : Value) = .int .i64 65535) ∧ ((.int .i64 1 : Value) = .int .i64 1) ∧ ((.int .i64 7 : Value) = .int .i64 7) ∧ True) () (ai rfl (ai rfl (ai rfl (ai rfl (ai rfl (ai rfl (ai rfl (ai rfl (ai rfl (ai rfl (ai rfl (ai rfl (ai rfl (ai rfl (ai rfl (ai rfl (ai rfl (ai rfl (ai rfl (ai rfl (ai rfl (ai rfl (ai rfl (ai ir (ai rfl (ai rfl (ai ir (ai rfl (ai rfl (ai rfl (ai rfl (ai rfl (ai rfl (ai rfl (ai rfl (ai rfl (ai rfl trivial)))))))))))))))))))))))))))))))))))))))))))))))) (ai (hk87_0 word) (fun (x : Nat → SV) (_ : True) => ai (ai (ai (by exact (by decide : (9 : Nat) ≤ 1000000000) : (raw87 x).length ≤ 1000000000) (by (intros; exact trivial) : ∀ k : Nat, k < (raw87 x).length → (fun (x0 : formR) => True) ((raw87 x).getD k default))) (ai (Imp.refl (.l 3 eformR (raw87 x))) (ai (Eq.refl (fsQ131 (fun (x0 : formR) => True) (fun (x0 : formR) => F140 x0 word))) (ai trivial (ai (Imps.refl [.v (.string word)]) (Exists.intro (p := fun (_ : Unit) => (Imp (.l 3 eformR ((raw87 x).filter (fun x => !((fun (x0 : formR) => F140 x0 word) x)))) (.l 3 eformR ((raw87 x).filter (fun x => !((fun (x0 : formR) => F140 x0 word) x))))) ∧ (Imp (.x (LX (know87 x))) (.x (LX (know87 x)))) ∧ True) () (ai ir (ai ir trivial)))))))) (ai (hk87_1 word x) (fun (_ : Unit) (_ : True) => (fun hF : ((all87.filter (fun z => z.word.toList == word.toList)) : List form) = (F87 word) => ai (Imp.of_eq (congrArg (fun r : List form => Dat.b (Dat.l 3 eform r)) hF)) trivial) rfl))))))) (by kernel_rfl)
theorem g87_0 (word : ByteArray) : ∀ k : Nat, ((F87 word).getD k default).checks.length ≤ 6 := by
 have hall : ∀ z ∈ all87, z.checks.length ≤ 6 := by
  intro z hz
  simp only [all87, List.mem_cons, List.not_mem_nil, or_false] at hz
  rcases hz with rfl | rfl | rfl | rfl | rfl | rfl | rfl | rfl | rfl <;> decide
 intro k
 rw [List.getD_eq_getElem?_getD]
 cases h : (F87 word)[k]? with
 | none => exact Nat.zero_le 6
 | some z => exact hall z (List.mem_filter.1 (List.mem_of_getElem? h)).1
def F88_s0 (f : form) (words : List ByteArray) : Int → Lp Int Bool := fun v17 =>
 bif (decide (v17 < (f.checks.length : Int))) then (bif (!((f.checks.getD (Int.toNat v17) default) (words.getD (Int.toNat (v17 + 1)) default))) then (.ret false) else (.next (v17 + 1))) else (.done v17)
def F88 (f : form) (words : List ByteArray) : Bool :=
 bif ((words.length : Int) != ((f.checks.length : Int) + 1)) then false else ((runL (F88_s0 f words) ((Int.toNat ((f.checks.length : Int) - 0)) + 1) 0).fin (fun r => r) (fun v17 => true))
abbrev lN88_0 (f : form) : Nat × Int := (((Int.toNat ((f.checks.length : Int) - 0)) + 1), 0)
abbrev lI88_0 (f : form) (m39 : Nat) (v17 : Int) : Prop := Int.toNat ((f.checks.length : Int) - v17) < m39 ∧ (0 : Int) ≤ v17
abbrev lX88_0 (f : form) (words : List ByteArray) : Lp Int Bool := LpX (F88_s0 f words) (lN88_0 f)
abbrev lJ88_0 (f : form) (words : List ByteArray) (i : Nat × Int) : Prop := LpJ (F88_s0 f words) (lN88_0 f) i (lI88_0 f i.1 i.2)
abbrev lH88_0 (f : form) (words : List ByteArray) (i : Nat × Int) (m39 : Nat) (v17 : Int) : Prop := LpH (F88_s0 f words) (lN88_0 f) i m39 v17 (lI88_0 f (m39 + 1) v17)
abbrev lE88_0 (f : form) (words : List ByteArray) (v17 : Int) (v17_ : Int) (K39 : Prop) : Prop := (Rf (.int .i64 (f.checks.length : Int))) ∧ ((.int .i64 v17 : Value) = .int .i64 v17_) ∧ (Im (.l 1 eStr words)) ∧ (Im (.l 1 eFn64 f.checks)) ∧ K39
theorem un88_0 (f : form) (words : List ByteArray) (i : Nat × Int) (h : lJ88_0 f words i) : lH88_0 f words i (i.1 - 1) i.2 := ⟨hd1 h.1 h.2.1, hd3 h.2.1, hd2 h.2.1, h.2.2⟩
theorem bk88_0 (f : form) (words : List ByteArray) (i : Nat × Int) (m39 : Nat) (v17 : Int) (hl : m39 < i.1) (e : runL (F88_s0 f words) m39 v17 = lX88_0 f words) (h : lI88_0 f m39 v17) : ∃ j : Nat × Int, lE88_0 f words v17 j.2 (lJ88_0 f words j ∧ j.1 < i.1) := ⟨(m39, v17), rfl, rfl, Imp.refl _, Imp.refl _, ⟨e, h⟩, hl⟩
theorem en88_0 (f : form) (words : List ByteArray) (h : (0 : Int) ≤ 0) : lE88_0 f words 0 0 (lJ88_0 f words (lN88_0 f)) := ⟨rfl, rfl, Imp.refl _, Imp.refl _, rfl, Nat.lt_succ_self _, h⟩
def S88 (f : form) (words : List ByteArray) : Spec := ⟨[.r (.g (eform f)), .r (.c (.l 1 eStr words))], .v (.bool (F88 f words)), f.checks.length ≤ 6 ∧ (∀ k : Nat, (words.getD k default).size ≤ 1048576)⟩
theorem ok88 (f : form) (words : List ByteArray) : (S88 f words).ok Tryz.prog 88 false :=
 fnG_ok mixed (fn := Tryz.f88) (ct := .seqk [(1, 0)] .no (.seq (.seq (.reg [(5, .bnd)]) (.cond (.seq .no .no) .no)) (.seq (.seqk [(1, 0), (15, 0)] .no (.blk (.loop (ι := Nat × Int) (fun i => (fun (v17 : Int) => (⟨[(1, some (.h 0 0)), (15, some (.h 1 0)), (16, some (.v (vI (f.checks.length : Int)))), (17, some (.v (vI v17)))], [(0, some (.shr none (.l 1 eStr words))), (1, some (.shr none (.l 1 eFn64 f.checks)))], 2⟩ : St)) i.2) (lJ88_0 f words) (fun i => i.1) (lN88_0 f) (fun i => (fun (v17 : Int) => (.seq .no (.seq (.cond .no .no) (.seq (.blk (.seq .no (.seq (.reg [(3, .bnd), (6, .fnv (fsB64 (f.checks.getD (Int.toNat v17) default)) (words.getD (Int.toNat (v17 + 1)) default))]) (.cond (.seq .no .no) .no)))) (.reg [(0, .bnd)]))))) i.2)))) (.seq .no .no)))) Tryz.func88 (fun (hp : f.checks.length ≤ 6 ∧ (∀ k : Nat, (words.getD k default).size ≤ 1048576)) => have hpre0 := hp.1; have hpre1 := hp.2; kn words fun _ => ai (iok ((f.checks.length : Int) + 1) (by omega)) (ifn (words.length : Int) ((f.checks.length : Int) + 1) (fun h1 _ => fiB false (F88 f words) (condT h1 rfl)) (fun h1 _ => kn words fun _ => kn f.checks fun _ => ai (en88_0 f words (by omega)) (fun (i0 : Nat × Int) (hi0 : lJ88_0 f words i0) => (fun (m0 : Nat) (v17 : Int) (hh0 : lH88_0 f words i0 m0 v17) => have hI0 := hh0.1; have hl0 := hh0.2.1; have _ := hh0.2.2.1; have _ := hh0.2.2.2; ifd (v17 < (f.checks.length : Int)) (fun h3 _ => ai (by omega : ib v17 f.checks) (ai (iok (v17 + 1) (by omega)) (ai (by omega : ib (v17 + 1) words) (ai (Eq.refl (FnX Tryz.prog (fsB64 (f.checks.getD (Int.toNat v17) default)))) (ai (Imp.bx (by exact hpre1 _ : (words.getD (Int.toNat (v17 + 1)) default).size ≤ 1048576)) (ifb (!((f.checks.getD (Int.toNat v17) default) (words.getD (Int.toNat (v17 + 1)) default))) (fun h4 => have _ := (notET h4); fiB false (F88 f words) (condF h1 (finR (runL_ret hI0 (condT h3 (condT h4 rfl))) rfl))) (fun h4 => have _ := (notEF h4); ai (iok (v17 + 1) (by omega)) (bk88_0 f words i0 m0 (v17 + 1) hl0 (runL_next hI0 (condT h3 (condF h4 rfl))) (by refine ⟨?_, ?_⟩ <;> omega))))))))) (fun h3 _ => have hD0_5 : lX88_0 f words = Lp.done v17 := runL_done hI0 (condF h3 rfl); fiB true (F88 f words) (condF h1 (finD hD0_5 rfl)))) (i0.1 - 1) i0.2 (un88_0 f words i0 hi0))))) (by kernel_rfl)
theorem kc87 (word : ByteArray) {K_ : Prop} (k_ : (∀ k : Nat, ((F87 word).getD k default).checks.length ≤ 6) → K_) : (True) ∧ (Imp (.v (.string word)) (.v (.string word))) ∧ K_ := ⟨trivial, Imp.refl _, k_ (g87_0 word)⟩
abbrev kh87 (word : ByteArray) : Hint false Tryz.prog := .call 87 (S87 word) (ok87 word) none
theorem kc88 (f : form) (words : List ByteArray) {K_ : Prop} (p0_ : f.checks.length ≤ 6) (p1_ : ∀ k : Nat, (words.getD k default).size ≤ 1048576) (k_ : K_) : (f.checks.length ≤ 6 ∧ (∀ k : Nat, (words.getD k default).size ≤ 1048576)) ∧ (Imps (eform f) (eform f)) ∧ (Imp (.l 1 eStr words) (.l 1 eStr words)) ∧ K_ := ⟨⟨p0_, p1_⟩, Imps.refl _, Imp.refl _, k_⟩
abbrev kh88 (f : form) (words : List ByteArray) : Hint false Tryz.prog := .call 88 (S88 f words) (ok88 f words) none
def F34_s0 (words : List ByteArray) : Int → Lp Int (form × Bool) := fun v15 =>
 bif (decide (v15 < ((F87 (words.getD (Int.toNat 0) default)).length : Int))) then (bif (F88 ((F87 (words.getD (Int.toNat 0) default)).getD (Int.toNat v15) default) words) then (.ret (((F87 (words.getD (Int.toNat 0) default)).getD (Int.toNat v15) default), true)) else (.next (v15 + 1))) else (.done v15)
def F34 (words : List ByteArray) : form × Bool :=
 bif ((words.length : Int) == 0) then ((⟨(⟨#[]⟩ : ByteArray), 0, []⟩ : form), false) else ((runL (F34_s0 words) ((Int.toNat (((F87 (words.getD (Int.toNat 0) default)).length : Int) - 0)) + 1) 0).fin (fun r => r) (fun v15 => ((⟨(⟨#[]⟩ : ByteArray), 0, []⟩ : form), false)))
abbrev lN34_0 (words : List ByteArray) : Nat × Int := (((Int.toNat (((F87 (words.getD (Int.toNat 0) default)).length : Int) - 0)) + 1), 0)
abbrev lI34_0 (words : List ByteArray) (m39 : Nat) (v15 : Int) : Prop := Int.toNat (((F87 (words.getD (Int.toNat 0) default)).length : Int) - v15) < m39 ∧ (0 : Int) ≤ v15
abbrev lX34_0 (words : List ByteArray) : Lp Int (form × Bool) := LpX (F34_s0 words) (lN34_0 words)
abbrev lJ34_0 (words : List ByteArray) (i : Nat × Int) : Prop := LpJ (F34_s0 words) (lN34_0 words) i (lI34_0 words i.1 i.2)
abbrev lH34_0 (words : List ByteArray) (i : Nat × Int) (m39 : Nat) (v15 : Int) : Prop := LpH (F34_s0 words) (lN34_0 words) i m39 v15 (lI34_0 words (m39 + 1) v15)
abbrev lE34_0 (words : List ByteArray) (v15 : Int) (v15_ : Int) (K39 : Prop) : Prop := (Rf (.int .i64 ((F87 (words.getD (Int.toNat 0) default)).length : Int))) ∧ ((.int .i64 v15 : Value) = .int .i64 v15_) ∧ (Im (.l 1 eStr words)) ∧ (Rf (.string w13_)) ∧ (Rf (.int .i64 0)) ∧ (Rf (.slice none 0 0)) ∧ (Im (.b (.l 3 eform (F87 (words.getD (Int.toNat 0) default))))) ∧ K39
theorem un34_0 (words : List ByteArray) (i : Nat × Int) (h : lJ34_0 words i) : lH34_0 words i (i.1 - 1) i.2 := ⟨hd1 h.1 h.2.1, hd3 h.2.1, hd2 h.2.1, h.2.2⟩
theorem bk34_0 (words : List ByteArray) (i : Nat × Int) (m39 : Nat) (v15 : Int) (hl : m39 < i.1) (e : runL (F34_s0 words) m39 v15 = lX34_0 words) (h : lI34_0 words m39 v15) : ∃ j : Nat × Int, lE34_0 words v15 j.2 (lJ34_0 words j ∧ j.1 < i.1) := ⟨(m39, v15), rfl, rfl, Imp.refl _, rfl, rfl, rfl, Imp.refl _, ⟨e, h⟩, hl⟩
theorem en34_0 (words : List ByteArray) (h : (0 : Int) ≤ 0) : lE34_0 words 0 0 (lJ34_0 words (lN34_0 words)) := ⟨rfl, rfl, Imp.refl _, rfl, rfl, rfl, Imp.refl _, rfl, Nat.lt_succ_self _, h⟩
def S34 (words : List ByteArray) : Spec := ⟨[.r (.c (.l 1 eStr words))], .tu [.ag [.v (.string (((F34 words).1).word)), .v (vI (((F34 words).1).key)), .ow .any], .v (.bool ((F34 words).2))], (∀ k : Nat, (words.getD k default).size ≤ 1048576)⟩
theorem ok34 (words : List ByteArray) : (S34 words).ok Tryz.prog 34 false :=
 fnG_ok mixed (fn := Tryz.f34) (ct := .seqk [(0, 0)] .no (.seq (.seq .no (.cond (.seq .no .no) .no)) (.seq (.seqk [(0, 0), (13, 0)] (.reg [(3, kh87 (words.getD (Int.toNat 0) default))]) (.blk (.loop (ι := Nat × Int) (fun i => (fun (v15 : Int) => (⟨[(0, some (.h 0 0)), (2, some (.p 1 0)), (13, some (.h 2 0)), (14, some (.v (vI ((F87 (words.getD (Int.toNat 0) default)).length : Int)))), (15, some (.v (vI v15)))], [(0, some (.shr none (.l 1 eStr words))), (1, some (.box 54 [.v (.string w13_), .v (vI 0), .v (.slice none 0 0)])), (2, some (.own 2 (.b (.l 3 eform (F87 (words.getD (Int.toNat 0) default))))))], 3⟩ : St)) i.2) (lJ34_0 words) (fun i => i.1) (lN34_0 words) (fun i => (fun (v15 : Int) => (.seq .no (.seq (.cond .no .no) (.seq (.blk (.seq .no (.seq (.reg [(2, kh88 ((F87 (words.getD (Int.toNat 0) default)).getD (Int.toNat v15) default) words)]) (.cond (.seq .no .no) .no)))) (.reg [(0, .bnd)]))))) i.2)))) (.seq .no .no)))) Tryz.func34 (fun (hpre0 : ∀ k : Nat, (words.getD k default).size ≤ 1048576) => kn words fun _ => ife (words.length : Int) 0 (fun h1 _ => (fun hF : ((⟨w13_, 0, []⟩ : form), false) = (F34 words) => ai (congrArg (fun r : form × Bool => (.string r.1.word : Value)) hF) (ai (congrArg (fun r : form × Bool => (.int .i64 r.1.key : Value)) hF) (ai (congrArg (fun r : form × Bool => (.bool r.2 : Value)) hF) trivial))) (condT h1 rfl)) (fun h1 _ => ai (by omega : ib 0 words) (kc87 (words.getD (Int.toNat 0) default) (fun gv2 => kn words fun _ => kn (F87 (words.getD (Int.toNat 0) default)) fun _ => ai (en34_0 words (by omega)) (fun (i0 : Nat × Int) (hi0 : lJ34_0 words i0) => (fun (m0 : Nat) (v15 : Int) (hh0 : lH34_0 words i0 m0 v15) => have hI0 := hh0.1; have hl0 := hh0.2.1; have _ := hh0.2.2.1; have _ := hh0.2.2.2; ifd (v15 < ((F87 (words.getD (Int.toNat 0) default)).length : Int)) (fun h4 _ => ai (by omega : ib v15 (F87 (words.getD (Int.toNat 0) default))) (kc88 ((F87 (words.getD (Int.toNat 0) default)).getD (Int.toNat v15) default) words (by exact gv2 _) (by assumption) (ifb (F88 ((F87 (words.getD (Int.toNat 0) default)).getD (Int.toNat v15) default) words) (fun h5 => (fun hF : (((F87 (words.getD (Int.toNat 0) default)).getD (Int.toNat v15) default), true) = (F34 words) => ai (congrArg (fun r : form × Bool => (.string r.1.word : Value)) hF) (ai (congrArg (fun r : form × Bool => (.int .i64 r.1.key : Value)) hF) (ai (congrArg (fun r : form × Bool => (.bool r.2 : Value)) hF) trivial))) (condF h1 (finR (runL_ret hI0 (condT h4 (condT h5 rfl))) rfl))) (fun h5 => ai (iok (v15 + 1) (by omega)) (bk34_0 words i0 m0 (v15 + 1) hl0 (runL_next hI0 (condT h4 (condF h5 rfl))) (by refine ⟨?_, ?_⟩ <;> omega)))))) (fun h4 _ => have hD0_6 : lX34_0 words = Lp.done v15 := runL_done hI0 (condF h4 rfl); (fun hF : ((⟨w13_, 0, []⟩ : form), false) = (F34 words) => ai (congrArg (fun r : form × Bool => (.string r.1.word : Value)) hF) (ai (congrArg (fun r : form × Bool => (.int .i64 r.1.key : Value)) hF) (ai (congrArg (fun r : form × Bool => (.bool r.2 : Value)) hF) trivial))) (condF h1 (finD hD0_6 rfl)))) (i0.1 - 1) i0.2 (un34_0 words i0 hi0)))))) (by kernel_rfl)
theorem find_loop {α ρ τ : Type} [Inhabited α] (xs : List α) (p : α → Bool) (g : α → ρ) (st : Int → Lp Int ρ) (f : ρ → τ) (k : Int → τ) (y : τ) (hk : ∀ i, k i = y)
  (h1 : ∀ i : Nat, i < xs.length → st (i : Int) = bif p (xs.getD i default) then .ret (g (xs.getD i default)) else .next ((i + 1 : Nat) : Int)) (h2 : st (xs.length : Int) = .done (xs.length : Int)) :
  ∀ (m i : Nat), i + m = xs.length → ∀ fuel, m < fuel → (runL st fuel (i : Int)).fin f k = match (xs.drop i).find? p with | some a => f (g a) | none => y
 | m, i, _, 0, hf => absurd hf (Nat.not_lt_zero _)
 | 0, i, h, fuel + 1, hf => by
  have e : i = xs.length := by omega
  subst e
  rw [runL_d _ h2, List.drop_of_length_le (Nat.le_refl _)]
  exact hk _
 | m + 1, i, h, fuel + 1, hf => by
  have hst := h1 i (by omega)
  have hd : xs.drop i = xs.getD i default :: xs.drop (i + 1) := by
   rw [List.drop_eq_getElem_cons (show i < xs.length by omega), List.getD_eq_getElem?_getD, List.getElem?_eq_getElem (show i < xs.length by omega)]; rfl
  rw [hd, List.find?_cons]
  cases hp : p (xs.getD i default) with
  | true => rw [hp, cond_true] at hst; rw [runL_r _ hst]; rfl
  | false =>
   rw [hp, cond_false] at hst
   rw [runL_n _ hst, find_loop xs p g st f k y hk h1 h2 m (i + 1) (by omega) fuel (by omega)]
def chk : List (ByteArray → Bool) → Nat → List ByteArray → Bool
 | [], _, _ => true
 | c :: cs, i, w => c (w.getD i default) && chk cs (i + 1) w
theorem chk_drop (cs : List (ByteArray → Bool)) (w : List ByteArray) : ∀ (m i : Nat), i + m = cs.length → anyF (fun k => !(cs.getD k default) (w.getD (k + 1) default)) i m = !chk (cs.drop i) (i + 1) w
 | 0, i, h => by rw [List.drop_of_length_le (by omega)]; rfl
 | m + 1, i, h => by
  have hd : cs.drop i = cs.getD i default :: cs.drop (i + 1) := by
   rw [List.drop_eq_getElem_cons (show i < cs.length by omega), List.getD_eq_getElem?_getD, List.getElem?_eq_getElem (show i < cs.length by omega)]; rfl
  rw [hd]
  simp only [anyF, chk, Bool.not_and]
  rw [chk_drop cs w m (i + 1) (by omega)]
theorem fits_eq (f : form) (w : List ByteArray) : F88 f w = (decide (w.length = f.checks.length + 1) && chk f.checks 1 w) := by
 unfold F88
 by_cases h : w.length = f.checks.length + 1
 ·have h1 : ((w.length : Int) != ((f.checks.length : Int) + 1)) = false := by
   rw [bne_eq_false_iff_eq]; omega
  rw [h1, cond_false, decide_eq_true h, Bool.true_and]
  have := any_loop (F88_s0 f w) f.checks.length (fun k => !(f.checks.getD k default) (w.getD (k + 1) default)) false (fun r => r) true (fun i hi => by
   simp only [F88_s0, decide_eq_true (show (i : Int) < (f.checks.length : Int) by omega), cond_true, Int.toNat_natCast]
   rw [show ((i : Int) + 1).toNat = i + 1 by omega]
   cases (!(f.checks.getD i default) (w.getD (i + 1) default)) <;> rfl) (by
   simp only [F88_s0, decide_eq_false (show ¬ (f.checks.length : Int) < (f.checks.length : Int) by omega), cond_false])
  have h2 := this f.checks.length 0 (by omega) (Int.toNat ((f.checks.length : Int) - 0) + 1) (by omega)
  rw [chk_drop f.checks w f.checks.length 0 (by omega), List.drop_zero] at h2
  refine h2.trans ?_
  cases chk f.checks (0 + 1) w <;> rfl
 ·have h1 : ((w.length : Int) != ((f.checks.length : Int) + 1)) = true := by
   rw [bne_iff_ne]; omega
  rw [h1, cond_true, decide_eq_false h, Bool.false_and]
theorem formOf_eq (w : List ByteArray) (hw : w.length ≠ 0) : F34 w = match (F87 (w.getD 0 default)).find? (fun f => F88 f w) with | some f => (f, true) | none => ((⟨(⟨#[]⟩ : ByteArray), 0, []⟩ : form), false) := by
 unfold F34
 have h1 : ((w.length : Int) == 0) = false := by rw [beq_eq_false_iff_ne]; omega
 rw [h1, cond_false]
 have h0 : w.getD (Int.toNat 0) default = w.getD 0 default := rfl
 simp only [h0]
 generalize hx : F87 (w.getD 0 default) = xs
 have := find_loop xs (fun f => F88 f w) (fun f => (f, true)) (F34_s0 w) (fun r => r) (fun _ => ((⟨(⟨#[]⟩ : ByteArray), 0, []⟩ : form), false)) _ (fun _ => rfl) (fun i hi => by
  simp only [F34_s0, h0, hx, decide_eq_true (show (i : Int) < (xs.length : Int) by omega), cond_true, Int.toNat_natCast]
  cases F88 (xs.getD i default) w <;> rfl) (by
  simp only [F34_s0, h0, hx, decide_eq_false (show ¬ (xs.length : Int) < (xs.length : Int) by omega), cond_false]) xs.length 0 (by omega) (Int.toNat ((xs.length : Int) - 0) + 1) (by omega)
 rw [List.drop_zero] at this
 refine Eq.trans this ?_
 cases xs.find? (fun f => F88 f w) <;> rfl
theorem forms_of (l : List UInt8) (x : ByteArray) (h : x.data.toList = l) : F87 x = all87.filter (fun z => z.word.data.toList == l) := by
 unfold F87
 congr 1
 funext z
 rw [byteToList, byteToList, h]
def keyN (l : List UInt8) : Int :=
 if l = [104, 111, 115, 116] then 1 else if l = [117, 115, 101, 114] then 2 else if l = [112, 111, 114, 116] then 2 else if l = [114, 117, 108, 101] then 3 else if l = [114, 111, 117, 116, 101] then 3 else if l = [112, 101, 101, 114] then 2 else if l = [110, 97, 116] then 1 else 3
theorem one_word (x a : ByteArray) : F166 x [a] = (x.toList == a.toList) := by
 unfold F166
 rw [implHas_eq, List.any_cons, List.any_nil, Bool.or_false]
theorem two_words (x a b : ByteArray) : F166 x [a, b] = bif (x.toList == a.toList) then true else (x.toList == b.toList) := by
 unfold F166
 rw [implHas_eq, List.any_cons, List.any_cons, List.any_nil, Bool.or_false]
 cases (x.toList == a.toList) <;> rfl
theorem in_range (x : ByteArray) (lo hi : Int) : F165 x lo hi = decide (lo ≤ F123 x ∧ F123 x ≤ hi) := by
 unfold F165
 rw [number_same]
theorem len_dec (w : List ByteArray) (n : Nat) : ((w.length : Int) == (n : Int)) = decide (w.length = n) := by
 by_cases h : w.length = n
 ·rw [decide_eq_true h, beq_iff_eq]; omega
 ·rw [decide_eq_false h, beq_eq_false_iff_ne]; omega
theorem form_one (w : List ByteArray) (f : form) (hw : w.length ≠ 0) (h : F87 (w.getD 0 default) = [f]) : (F34 w).2 = F88 f w ∧ ((F34 w).2 = true → (F34 w).1.key = f.key) := by
 rw [formOf_eq w hw, h, List.find?_cons, List.find?_nil]
 cases F88 f w <;> exact ⟨rfl, fun h => by first | rfl | cases h⟩
theorem form_two (w : List ByteArray) (f g : form) (hw : w.length ≠ 0) (h : F87 (w.getD 0 default) = [f, g]) (hk : f.key = g.key) : (F34 w).2 = (F88 f w || F88 g w) ∧ ((F34 w).2 = true → (F34 w).1.key = f.key) := by
 rw [formOf_eq w hw, h, List.find?_cons, List.find?_cons, List.find?_nil]
 cases F88 f w <;> cases F88 g w <;> exact ⟨rfl, fun h => by first | rfl | exact hk.symm | cases h⟩
theorem form_none (w : List ByteArray) (hw : w.length ≠ 0) (h : F87 (w.getD 0 default) = []) : (F34 w).2 = false := by
 rw [formOf_eq w hw, h]; rfl
theorem blit (x : ByteArray) (a : Array UInt8) : (x.toList == (⟨a⟩ : ByteArray).toList) = (x.data.toList == a.toList) := by rw [byteToList, byteToList]
theorem hd00 : (([104, 111, 115, 116] : List UInt8) == ([104, 111, 115, 116] : List UInt8)) = true := by decide
theorem hd10 : (([117, 115, 101, 114] : List UInt8) == ([104, 111, 115, 116] : List UInt8)) = false := by decide
theorem hd11 : (([117, 115, 101, 114] : List UInt8) == ([117, 115, 101, 114] : List UInt8)) = true := by decide
theorem hd20 : (([112, 111, 114, 116] : List UInt8) == ([104, 111, 115, 116] : List UInt8)) = false := by decide
theorem hd21 : (([112, 111, 114, 116] : List UInt8) == ([117, 115, 101, 114] : List UInt8)) = false := by decide
theorem hd22 : (([112, 111, 114, 116] : List UInt8) == ([112, 111, 114, 116] : List UInt8)) = true := by decide
theorem hd30 : (([114, 117, 108, 101] : List UInt8) == ([104, 111, 115, 116] : List UInt8)) = false := by decide
theorem hd31 : (([114, 117, 108, 101] : List UInt8) == ([117, 115, 101, 114] : List UInt8)) = false := by decide
theorem hd32 : (([114, 117, 108, 101] : List UInt8) == ([112, 111, 114, 116] : List UInt8)) = false := by decide
theorem hd33 : (([114, 117, 108, 101] : List UInt8) == ([114, 117, 108, 101] : List UInt8)) = true := by decide
theorem hd40 : (([114, 111, 117, 116, 101] : List UInt8) == ([104, 111, 115, 116] : List UInt8)) = false := by decide
theorem hd41 : (([114, 111, 117, 116, 101] : List UInt8) == ([117, 115, 101, 114] : List UInt8)) = false := by decide
theorem hd42 : (([114, 111, 117, 116, 101] : List UInt8) == ([112, 111, 114, 116] : List UInt8)) = false := by decide
theorem hd43 : (([114, 111, 117, 116, 101] : List UInt8) == ([114, 117, 108, 101] : List UInt8)) = false := by decide
theorem hd44 : (([114, 111, 117, 116, 101] : List UInt8) == ([114, 111, 117, 116, 101] : List UInt8)) = true := by decide
theorem hd50 : (([112, 101, 101, 114] : List UInt8) == ([104, 111, 115, 116] : List UInt8)) = false := by decide
theorem hd51 : (([112, 101, 101, 114] : List UInt8) == ([117, 115, 101, 114] : List UInt8)) = false := by decide
theorem hd52 : (([112, 101, 101, 114] : List UInt8) == ([112, 111, 114, 116] : List UInt8)) = false := by decide
theorem hd53 : (([112, 101, 101, 114] : List UInt8) == ([114, 117, 108, 101] : List UInt8)) = false := by decide
theorem hd54 : (([112, 101, 101, 114] : List UInt8) == ([114, 111, 117, 116, 101] : List UInt8)) = false := by decide
theorem hd55 : (([112, 101, 101, 114] : List UInt8) == ([112, 101, 101, 114] : List UInt8)) = true := by decide
theorem hd60 : (([110, 97, 116] : List UInt8) == ([104, 111, 115, 116] : List UInt8)) = false := by decide
theorem hd61 : (([110, 97, 116] : List UInt8) == ([117, 115, 101, 114] : List UInt8)) = false := by decide
theorem hd62 : (([110, 97, 116] : List UInt8) == ([112, 111, 114, 116] : List UInt8)) = false := by decide
theorem hd63 : (([110, 97, 116] : List UInt8) == ([114, 117, 108, 101] : List UInt8)) = false := by decide
theorem hd64 : (([110, 97, 116] : List UInt8) == ([114, 111, 117, 116, 101] : List UInt8)) = false := by decide
theorem hd65 : (([110, 97, 116] : List UInt8) == ([112, 101, 101, 114] : List UInt8)) = false := by decide
theorem hd66 : (([110, 97, 116] : List UInt8) == ([110, 97, 116] : List UInt8)) = true := by decide
theorem hd70 : (([100, 111, 111, 114] : List UInt8) == ([104, 111, 115, 116] : List UInt8)) = false := by decide
theorem hd71 : (([100, 111, 111, 114] : List UInt8) == ([117, 115, 101, 114] : List UInt8)) = false := by decide
theorem hd72 : (([100, 111, 111, 114] : List UInt8) == ([112, 111, 114, 116] : List UInt8)) = false := by decide
theorem hd73 : (([100, 111, 111, 114] : List UInt8) == ([114, 117, 108, 101] : List UInt8)) = false := by decide
theorem hd74 : (([100, 111, 111, 114] : List UInt8) == ([114, 111, 117, 116, 101] : List UInt8)) = false := by decide
theorem hd75 : (([100, 111, 111, 114] : List UInt8) == ([112, 101, 101, 114] : List UInt8)) = false := by decide
theorem hd76 : (([100, 111, 111, 114] : List UInt8) == ([110, 97, 116] : List UInt8)) = false := by decide
theorem hd77 : (([100, 111, 111, 114] : List UInt8) == ([100, 111, 111, 114] : List UInt8)) = true := by decide
theorem cb1 (a b : Bool) : (bif a then b else false) = (a && b) := by cases a <;> rfl
theorem cb2 (a b : Bool) : (bif a then true else b) = (a || b) := by cases a <;> rfl
theorem form_same (w : List ByteArray) : (F34 w).2 = F36 w ∧ ((F34 w).2 = true → (F34 w).1.key = keyN (w.getD 0 default).data.toList) := by
 by_cases hw : w.length = 0
 ·obtain rfl := List.eq_nil_of_length_eq_zero hw
  exact ⟨rfl, fun h => by cases h⟩
 have h0 : ((w.length : Int) == 0) = false := by rw [beq_eq_false_iff_ne]; omega
 have t0 : ∀ k : Nat, w.getD (Int.toNat (k : Int)) default = w.getD k default := fun _ => rfl
 have e0 : w.getD (Int.toNat 0) default = w.getD 0 default := rfl
 have e1 : w.getD (Int.toNat 1) default = w.getD 1 default := rfl
 have e2 : w.getD (Int.toNat 2) default = w.getD 2 default := rfl
 have e3 : w.getD (Int.toNat 3) default = w.getD 3 default := rfl
 have e4 : w.getD (Int.toNat 4) default = w.getD 4 default := rfl
 have e5 : w.getD (Int.toNat 5) default = w.getD 5 default := rfl
 have e6 : w.getD (Int.toNat 6) default = w.getD 6 default := rfl
 have n2 := len_dec w 2
 have n3 := len_dec w 3
 have n4 := len_dec w 4
 have n5 := len_dec w 5
 have n7 := len_dec w 7
 simp only [Int.cast_ofNat_Int] at n2 n3 n4 n5 n7
 have hb : ∀ l : List UInt8, (w.getD 0 default).data.toList = l → (w.getD 0 default).toList = l := fun l h => by rw [byteToList, h]
 have hlit : ∀ l : List UInt8, (⟨l.toArray⟩ : ByteArray).toList = l := fun l => by rw [byteToList]
 unfold F36
 simp only [h0, cond_false, e0, e1, e2, e3, e4, e5, e6, n2, n3, n4, n5, n7]
 rcases Classical.em ((w.getD 0 default).data.toList = [104, 111, 115, 116]) with h | hn0
 ·have hF := (forms_of _ _ h).trans (show _ = [all87.getD 0 default] from rfl)
  have f0 : F88 (all87.getD 0 default) w = (decide (w.length = 2) && (F134 (w.getD 1 default) && true)) := fits_eq _ _
  obtain ⟨k1, k2⟩ := form_one w _ hw hF
  refine ⟨?_, fun hh => (k2 hh).trans (by rw [h]; rfl)⟩
  rw [k1, f0]
  simp only [blit, h, hd00, cond_true, cond_false, name_same, isRights_same, isPrefix_same, isAddr_same, in_range, one_word, two_words, cb1, cb2, Bool.and_true, Bool.and_assoc]
 rcases Classical.em ((w.getD 0 default).data.toList = [117, 115, 101, 114]) with h | hn1
 ·have hF := (forms_of _ _ h).trans (show _ = [all87.getD 1 default] from rfl)
  have f0 : F88 (all87.getD 1 default) w = (decide (w.length = 3) && (F134 (w.getD 1 default) && (F135 (w.getD 2 default) && true))) := fits_eq _ _
  obtain ⟨k1, k2⟩ := form_one w _ hw hF
  refine ⟨?_, fun hh => (k2 hh).trans (by rw [h]; rfl)⟩
  rw [k1, f0]
  simp only [blit, h, hd10, hd11, cond_true, cond_false, name_same, isRights_same, isPrefix_same, isAddr_same, in_range, one_word, two_words, cb1, cb2, Bool.and_true, Bool.and_assoc]
 rcases Classical.em ((w.getD 0 default).data.toList = [112, 111, 114, 116]) with h | hn2
 ·have hF := (forms_of _ _ h).trans (show _ = [all87.getD 2 default, all87.getD 3 default] from rfl)
  have f0 : F88 (all87.getD 2 default) w = (decide (w.length = 3) && (F165 (w.getD 1 default) 0 7 && (F136 (w.getD 2 default) && true))) := fits_eq _ _
  have f1 : F88 (all87.getD 3 default) w = (decide (w.length = 5) && (F165 (w.getD 1 default) 0 7 && (F136 (w.getD 2 default) && (F166 (w.getD 3 default) [(⟨#[105, 110]⟩ : ByteArray)] && (F134 (w.getD 4 default) && true))))) := fits_eq _ _
  obtain ⟨k1, k2⟩ := form_two w _ _ hw hF rfl
  refine ⟨?_, fun hh => (k2 hh).trans (by rw [h]; rfl)⟩
  rw [k1, f0, f1]
  simp only [blit, h, hd20, hd21, hd22, cond_true, cond_false, name_same, isRights_same, isPrefix_same, isAddr_same, in_range, one_word, two_words, cb1, cb2, Bool.and_true, Bool.and_assoc]
  generalize decide (w.length = 3) = a, decide (w.length = 5) = b, decide (0 ≤ F123 (w.getD 1 default) ∧ F123 (w.getD 1 default) ≤ 7) = c, F94 (w.getD 2 default) = d, ((w.getD 3 default).data.toList == [105, 110]) = e, F82 (w.getD 4 default) = g
  cases a <;> cases b <;> cases c <;> cases d <;> cases e <;> cases g <;> rfl
 rcases Classical.em ((w.getD 0 default).data.toList = [114, 117, 108, 101]) with h | hn3
 ·have hF := (forms_of _ _ h).trans (show _ = [all87.getD 4 default] from rfl)
  have f0 : F88 (all87.getD 4 default) w = (decide (w.length = 7) && (F134 (w.getD 1 default) && (F165 (w.getD 2 default) 0 99 && (F166 (w.getD 3 default) [(⟨#[112, 101, 114, 109, 105, 116]⟩ : ByteArray), (⟨#[100, 101, 110, 121]⟩ : ByteArray)] && (F136 (w.getD 4 default) && (F136 (w.getD 5 default) && (F165 (w.getD 6 default) 0 7 && true))))))) := fits_eq _ _
  obtain ⟨k1, k2⟩ := form_one w _ hw hF
  refine ⟨?_, fun hh => (k2 hh).trans (by rw [h]; rfl)⟩
  rw [k1, f0]
  simp only [blit, h, hd30, hd31, hd32, hd33, cond_true, cond_false, name_same, isRights_same, isPrefix_same, isAddr_same, in_range, one_word, two_words, cb1, cb2, Bool.and_true, Bool.and_assoc]
 rcases Classical.em ((w.getD 0 default).data.toList = [114, 111, 117, 116, 101]) with h | hn4
 ·have hF := (forms_of _ _ h).trans (show _ = [all87.getD 5 default] from rfl)
  have f0 : F88 (all87.getD 5 default) w = (decide (w.length = 3) && (F136 (w.getD 1 default) && (F138 (w.getD 2 default) && true))) := fits_eq _ _
  obtain ⟨k1, k2⟩ := form_one w _ hw hF
  refine ⟨?_, fun hh => (k2 hh).trans (by rw [h]; rfl)⟩
  rw [k1, f0]
  simp only [blit, h, hd40, hd41, hd42, hd43, hd44, cond_true, cond_false, name_same, isRights_same, isPrefix_same, isAddr_same, in_range, one_word, two_words, cb1, cb2, Bool.and_true, Bool.and_assoc]
 rcases Classical.em ((w.getD 0 default).data.toList = [112, 101, 101, 114]) with h | hn5
 ·have hF := (forms_of _ _ h).trans (show _ = [all87.getD 6 default] from rfl)
  have f0 : F88 (all87.getD 6 default) w = (decide (w.length = 4) && (F138 (w.getD 1 default) && (F165 (w.getD 2 default) 1 9 && (F165 (w.getD 3 default) 1 999999 && true)))) := fits_eq _ _
  obtain ⟨k1, k2⟩ := form_one w _ hw hF
  refine ⟨?_, fun hh => (k2 hh).trans (by rw [h]; rfl)⟩
  rw [k1, f0]
  simp only [blit, h, hd50, hd51, hd52, hd53, hd54, hd55, cond_true, cond_false, name_same, isRights_same, isPrefix_same, isAddr_same, in_range, one_word, two_words, cb1, cb2, Bool.and_true, Bool.and_assoc]
 rcases Classical.em ((w.getD 0 default).data.toList = [110, 97, 116]) with h | hn6
 ·have hF := (forms_of _ _ h).trans (show _ = [all87.getD 7 default] from rfl)
  have f0 : F88 (all87.getD 7 default) w = (decide (w.length = 5) && (F136 (w.getD 1 default) && (F138 (w.getD 2 default) && (F165 (w.getD 3 default) 1 65535 && (F165 (w.getD 4 default) 1 65535 && true))))) := fits_eq _ _
  obtain ⟨k1, k2⟩ := form_one w _ hw hF
  refine ⟨?_, fun hh => (k2 hh).trans (by rw [h]; rfl)⟩
  rw [k1, f0]
  simp only [blit, h, hd60, hd61, hd62, hd63, hd64, hd65, hd66, cond_true, cond_false, name_same, isRights_same, isPrefix_same, isAddr_same, in_range, one_word, two_words, cb1, cb2, Bool.and_true, Bool.and_assoc]
 rcases Classical.em ((w.getD 0 default).data.toList = [100, 111, 111, 114]) with h | hn7
 ·have hF := (forms_of _ _ h).trans (show _ = [all87.getD 8 default] from rfl)
  have f0 : F88 (all87.getD 8 default) w = (decide (w.length = 5) && (F165 (w.getD 1 default) 1 7 && (F165 (w.getD 2 default) 1 65535 && (F138 (w.getD 3 default) && (F165 (w.getD 4 default) 1 65535 && true))))) := fits_eq _ _
  obtain ⟨k1, k2⟩ := form_one w _ hw hF
  refine ⟨?_, fun hh => (k2 hh).trans (by rw [h]; rfl)⟩
  rw [k1, f0]
  simp only [blit, h, hd70, hd71, hd72, hd73, hd74, hd75, hd76, hd77, cond_true, cond_false, name_same, isRights_same, isPrefix_same, isAddr_same, in_range, one_word, two_words, cb1, cb2, Bool.and_true, Bool.and_assoc]
 have hF : F87 (w.getD 0 default) = [] := by
  rw [forms_of _ _ rfl, List.filter_eq_nil_iff]
  intro z hz
  simp only [all87, List.mem_cons, List.not_mem_nil, or_false] at hz
  rcases hz with rfl | rfl | rfl | rfl | rfl | rfl | rfl | rfl | rfl
  ·exact fun e => hn0 (eq_of_beq e).symm
  ·exact fun e => hn1 (eq_of_beq e).symm
  ·exact fun e => hn2 (eq_of_beq e).symm
  ·exact fun e => hn2 (eq_of_beq e).symm
  ·exact fun e => hn3 (eq_of_beq e).symm
  ·exact fun e => hn4 (eq_of_beq e).symm
  ·exact fun e => hn5 (eq_of_beq e).symm
  ·exact fun e => hn6 (eq_of_beq e).symm
  ·exact fun e => hn7 (eq_of_beq e).symm
 rw [form_none w hw hF]
 refine ⟨?_, fun h => by cases h⟩
 simp only [blit, beq_eq_false_iff_ne.2 hn0, beq_eq_false_iff_ne.2 hn1, beq_eq_false_iff_ne.2 hn2, beq_eq_false_iff_ne.2 hn3, beq_eq_false_iff_ne.2 hn4, beq_eq_false_iff_ne.2 hn5, beq_eq_false_iff_ne.2 hn6, beq_eq_false_iff_ne.2 hn7, cond_false]
theorem wordsOf_sz (l : List UInt8) (k : Nat) : ((wordsOf l).1.getD k default).size ≤ 24 := by
 unfold wordsOf fitW
 rw [List.getD_eq_getElem?_getD]
 cases h : ((l.all okB) && (decide ((wordsL l).length ≤ 8) && (wordsL l).all fun w => decide (w.length ≤ 24))) with
 | false => rw [cond_false]; exact Nat.zero_le _
 | true =>
  rw [cond_true]
  simp only [Bool.and_eq_true] at h
  have h2 := List.all_eq_true.1 h.2.2
  show ((((wordsL l).map mkB)[k]?).getD default).size ≤ 24
  rw [List.getElem?_map]
  cases hk : (wordsL l)[k]? with
  | none => exact Nat.zero_le _
  | some w => exact of_decide_eq_true (h2 w (List.mem_of_getElem? hk))
theorem words_sz24 (line : ByteArray) (k : Nat) : ((F10 line).1.getD k default).size ≤ 24 := by
 rw [impl_words]; exact wordsOf_sz _ k
theorem words_sz (line : ByteArray) : ∀ k : Nat, ((F10 line).1.getD k default).size ≤ 1048576 := fun k => Nat.le_trans (words_sz24 line k) (by decide)
theorem specwords_len (line : ByteArray) : (F11 line).1.length ≤ 8 := by rw [← words_same]; exact words_len line
theorem specwords_sz (line : ByteArray) : ∀ k : Nat, ((F11 line).1.getD k default).size ≤ 1048576 := by rw [← words_same]; exact words_sz line
theorem joinTail_len (sep : List UInt8) (m : Nat) : ∀ xs : List (List UInt8), (∀ x ∈ xs, x.length ≤ m) → (Lib.joinTail sep xs).length ≤ xs.length * (m + sep.length)
 | [], _ => by simp [Lib.joinTail]
 | x :: xs, h => by
  have h1 := joinTail_len sep m xs fun y hy => h y (List.mem_cons_of_mem _ hy)
  have h2 := h x List.mem_cons_self
  have e : Lib.joinTail sep (x :: xs) = (sep ++ x) ++ Lib.joinTail sep xs := rfl
  rw [e]
  simp only [List.length_append, List.length_cons, Nat.succ_mul]
  omega
theorem join_sz (ws : List ByteArray) (sep : ByteArray) (m : Nat) (h : ∀ k : Nat, (ws.getD k default).size ≤ m) : (joinS ws sep).size ≤ ws.length * (m + sep.size) := by
 have hx : ∀ x ∈ ws.map (·.data.toList), x.length ≤ m := by
  intro x hx
  obtain ⟨w, hw, rfl⟩ := List.mem_map.1 hx
  obtain ⟨k, hk⟩ := List.mem_iff_getElem?.1 hw
  have := h k
  rw [List.getD_eq_getElem?_getD, hk] at this
  exact this
 have e : (joinS ws sep).size = (Lib.join (ws.map (·.data.toList)) sep.data.toList).length := by simp [joinS, ByteArray.size]
 have es : sep.data.toList.length = sep.size := rfl
 rw [e]
 cases ws with
 | nil => simp [Lib.join]
 | cons a t =>
  rw [List.map_cons, Lib.join_cons, List.length_append, List.length_cons, Nat.succ_mul]
  have h1 := joinTail_len sep.data.toList m (t.map (·.data.toList)) fun y hy => hx y (by rw [List.map_cons]; exact List.mem_cons_of_mem _ hy)
  have h2 := hx a.data.toList (by rw [List.map_cons]; exact List.mem_cons_self)
  rw [List.length_map, es] at h1
  omega
theorem join_small (ws : List ByteArray) (sep : ByteArray) (h : ∀ k : Nat, (ws.getD k default).size ≤ 1048576) (hl : ws.length ≤ 8) (hs : sep.size ≤ 1) : (joinS ws sep).size ≤ 140737488355328 := by
 have h1 := join_sz ws sep 1048576 h
 have h2 := Nat.mul_le_mul hl (show 1048576 + sep.size ≤ 1048577 by omega)
 omega
def F35 (elems : List ByteArray) (sep : ByteArray) : ByteArray :=
 joinS elems sep
def S35 (elems : List ByteArray) (sep : ByteArray) : Spec := ⟨[.r (.c (.l 1 eStr elems)), .r (.c (.v (.string sep)))], .v (.string (F35 elems sep)), elems.length ≤ 140737488355328 ∧ (joinS elems sep).size ≤ 140737488355328⟩
theorem ok35 (elems : List ByteArray) (sep : ByteArray) : (S35 elems sep).ok Tryz.prog 35 false :=
 join_ok layJoin layJoinX elems sep
theorem kc10 (line : ByteArray) {K_ : Prop} (p0_ : line.size ≤ 1048576) (k_ : ((F10 line).1.length ≤ 8) → (∀ k : Nat, ((F10 line).1.getD k default).size ≤ 1048576) → K_) : (line.size ≤ 1048576) ∧ (Imp (.v (.string line)) (.v (.string line))) ∧ K_ := ⟨p0_, Imp.refl _, k_ (words_len line) (words_sz line)⟩
abbrev kh10 (line : ByteArray) : Hint false Tryz.prog := .call 10 (S10 line) (ok10 line) none
theorem kc34 (words : List ByteArray) {K_ : Prop} (p0_ : ∀ k : Nat, (words.getD k default).size ≤ 1048576) (k_ : K_) : (∀ k : Nat, (words.getD k default).size ≤ 1048576) ∧ (Imp (.l 1 eStr words) (.l 1 eStr words)) ∧ K_ := ⟨p0_, Imp.refl _, k_⟩
abbrev kh34 (words : List ByteArray) : Hint false Tryz.prog := .call 34 (S34 words) (ok34 words) none
theorem kc35 (elems : List ByteArray) (sep : ByteArray) {K_ : Prop} (p0_ : elems.length ≤ 140737488355328) (p1_ : (joinS elems sep).size ≤ 140737488355328) (k_ : K_) : (elems.length ≤ 140737488355328 ∧ (joinS elems sep).size ≤ 140737488355328) ∧ (Imp (.l 1 eStr elems) (.l 1 eStr elems)) ∧ (Imp (.v (.string sep)) (.v (.string sep))) ∧ K_ := ⟨⟨p0_, p1_⟩, Imp.refl _, Imp.refl _, k_⟩
abbrev kh35 (elems : List ByteArray) (sep : ByteArray) : Hint false Tryz.prog := .call 35 (S35 elems sep) (ok35 elems sep) none
def F8 (line : ByteArray) : ByteArray × Bool :=
 bif (!((F10 line).2)) then ((⟨#[]⟩ : ByteArray), false) else (bif (!((F34 ((F10 line).1)).2)) then ((⟨#[]⟩ : ByteArray), false) else ((F35 ((F10 line).1) (⟨#[32]⟩ : ByteArray)), true))
theorem fi8 (line : ByteArray) (r : ByteArray × Bool) (hF : r = (F8 line)) : ((.string r.1 : Value) = .string ((F8 line).1)) ∧ ((.bool r.2 : Value) = .bool ((F8 line).2)) ∧ True := by cases hF; exact ⟨rfl, rfl, trivial⟩
def S8 (line : ByteArray) : Spec := ⟨[.r (.c (.v (.string line)))], .tu [.v (.string ((F8 line).1)), .v (.bool ((F8 line).2))], line.size ≤ 1048576⟩
theorem ok8 (line : ByteArray) : (S8 line).ok Tryz.prog 8 false :=
 fnG_ok mixed (fn := Tryz.f8) (ct := .seq .no (.seq (.reg [(1, kh10 line)]) (.seq (.seq .no (.cond (.seq .no .no) .no)) (.seq (.seq (.reg [(1, kh34 ((F10 line).1))]) (.seq .no (.cond (.seq .no .no) .no))) (.seq (.reg [(1, kh35 ((F10 line).1) w15_)]) .no))))) Tryz.func8 (fun (hpre0 : line.size ≤ 1048576) => kc10 line (by omega) (fun gv1 gv2 => ifb (!((F10 line).2)) (fun h3 => have _ := (notET h3); fi8 line (w13_, false) (condT h3 rfl)) (fun h3 => have _ := (notEF h3); kc34 ((F10 line).1) (by first | assumption | exact gv2 | (intros; exact trivial) | (intros; exact Nat.zero_le _)) (ifb (!((F34 ((F10 line).1)).2)) (fun h4 => have _ := (notET h4); fi8 line (w13_, false) (condF h3 (condT h4 rfl))) (fun h4 => have _ := (notEF h4); kc35 ((F10 line).1) w15_ (by first | omega | exact join_small _ _ (by assumption) (by omega) (by decide)) (by first | omega | exact join_small _ _ (by assumption) (by omega) (by decide)) (fi8 line ((F35 ((F10 line).1) w15_), true) (condF h3 (condF h4 rfl)))))))) (by kernel_rfl)
theorem kc11 (line : ByteArray) {K_ : Prop} (p0_ : line.size ≤ 1048576) (k_ : ((F11 line).1.length ≤ 8) → (∀ k : Nat, ((F11 line).1.getD k default).size ≤ 1048576) → K_) : (line.size ≤ 1048576) ∧ (Imp (.v (.string line)) (.v (.string line))) ∧ K_ := ⟨p0_, Imp.refl _, k_ (specwords_len line) (specwords_sz line)⟩
abbrev kh11 (line : ByteArray) : Hint true Tryz.prog := .call 11 (S11 line) (ok11 line) none
theorem kg36 {K_ : Prop} (c_ b_ : Bool) (w1 : List ByteArray) (p_ : c_ = b_ → (∀ k : Nat, (w1.getD k default).size ≤ 1048576)) (k_ : K_) : (c_ = b_ → (∀ k : Nat, (w1.getD k default).size ≤ 1048576)) ∧ (c_ = b_ → Imp (.l 1 eStr w1) (.l 1 eStr w1)) ∧ K_ := ⟨p_, fun _ => Imp.refl _, k_⟩
abbrev kh36 (w1 : List ByteArray) : Hint true Tryz.prog := .call 36 (S36 w1) (ok36 w1) none
theorem kc37 (list : List ByteArray) (with' : ByteArray) {K_ : Prop} (p0_ : list.length ≤ 8) (p1_ : ∀ k : Nat, (list.getD k default).size ≤ 1048576) (p2_ : with'.size ≤ 1) (k_ : K_) : (list.length ≤ 8 ∧ (∀ k : Nat, (list.getD k default).size ≤ 1048576) ∧ with'.size ≤ 1) ∧ (Imp (.l 1 eStr list) (.l 1 eStr list)) ∧ (Imp (.v (.string with')) (.v (.string with'))) ∧ K_ := ⟨⟨p0_, p1_, p2_⟩, Imp.refl _, Imp.refl _, k_⟩
abbrev kh37 (list : List ByteArray) (with' : ByteArray) : Hint true Tryz.prog := .call 37 (S37 list with') (ok37 list with') none
def F9 (line : ByteArray) : ByteArray × Bool :=
 bif (bif (!((F11 line).2)) then true else (!(F36 ((F11 line).1)))) then ((⟨#[]⟩ : ByteArray), false) else ((F37 ((F11 line).1) (⟨#[32]⟩ : ByteArray)), true)
theorem fi9 (line : ByteArray) (r : ByteArray × Bool) (hF : r = (F9 line)) : ((.string r.1 : Value) = .string ((F9 line).1)) ∧ ((.bool r.2 : Value) = .bool ((F9 line).2)) ∧ True := by cases hF; exact ⟨rfl, rfl, trivial⟩
def S9 (line : ByteArray) : Spec := ⟨[.r (.c (.v (.string line)))], .tu [.v (.string ((F9 line).1)), .v (.bool ((F9 line).2))], line.size ≤ 1048576⟩
theorem ok9 (line : ByteArray) : (S9 line).ok Tryz.prog 9 :=
 fnG_ok mixed (fn := Tryz.f9) (ct := .seq .no (.seq (.reg [(1, kh11 line)]) (.seq (.seq (.reg [(4, kh36 ((F11 line).1))]) (.cond (.seq .no .no) .no)) (.seq (.reg [(1, kh37 ((F11 line).1) w15_)]) .no)))) Tryz.func9 (fun (hpre0 : line.size ≤ 1048576) => kc11 line (by omega) (fun gv1 gv2 => kg36 (!((F11 line).2)) false ((F11 line).1) (fun k3 => have _ := (notEF k3); (by first | assumption | exact gv2 | (intros; exact trivial) | (intros; exact Nat.zero_le _))) (ifb (bif (!((F11 line).2)) then true else (!(F36 ((F11 line).1)))) (fun h4 => fi9 line (w13_, false) (condT h4 rfl)) (fun h4 => have _ := (notEF (orF1 h4)); kc37 ((F11 line).1) w15_ (by first | assumption | omega | decide) (by first | assumption | omega | decide) (by first | assumption | omega | decide) (fi9 line ((F37 ((F11 line).1) w15_), true) (condF h4 rfl)))))) (by kernel_rfl)
theorem line_same (line : ByteArray) : F8 line = F9 line := by
 unfold F8 F9
 rw [words_same, (form_same _).1, specJoin_eq]
 cases (F11 line).2 <;> cases F36 (F11 line).1 <;> rfl
def hostP (w : List ByteArray) : Prop := (w.getD 0 default).data.toList = [104, 111, 115, 116] ∧ w.length = 2 ∧ F82 (w.getD 1 default) = true
def userP (w : List ByteArray) : Prop := (w.getD 0 default).data.toList = [117, 115, 101, 114] ∧ w.length = 3 ∧ F82 (w.getD 1 default) = true ∧ F92 (w.getD 2 default) = true
def portP (w : List ByteArray) : Prop := (w.getD 0 default).data.toList = [112, 111, 114, 116] ∧ (w.length = 3 ∨ w.length = 5 ∧ (w.getD 3 default).data.toList = [105, 110] ∧ F82 (w.getD 4 default) = true) ∧ 0 ≤ F123 (w.getD 1 default) ∧ F123 (w.getD 1 default) ≤ 7 ∧ F94 (w.getD 2 default) = true
def ruleP (w : List ByteArray) : Prop := (w.getD 0 default).data.toList = [114, 117, 108, 101] ∧ w.length = 7 ∧ F82 (w.getD 1 default) = true ∧ 0 ≤ F123 (w.getD 2 default) ∧ F123 (w.getD 2 default) ≤ 99 ∧ ((w.getD 3 default).data.toList = [112, 101, 114, 109, 105, 116] ∨ (w.getD 3 default).data.toList = [100, 101, 110, 121]) ∧ F94 (w.getD 4 default) = true ∧ F94 (w.getD 5 default) = true ∧ 0 ≤ F123 (w.getD 6 default) ∧ F123 (w.getD 6 default) ≤ 7
def routeP (w : List ByteArray) : Prop := (w.getD 0 default).data.toList = [114, 111, 117, 116, 101] ∧ w.length = 3 ∧ F94 (w.getD 1 default) = true ∧ F95 (w.getD 2 default) ≥ 0
def peerP (w : List ByteArray) : Prop := (w.getD 0 default).data.toList = [112, 101, 101, 114] ∧ w.length = 4 ∧ F95 (w.getD 1 default) ≥ 0 ∧ 1 ≤ F123 (w.getD 2 default) ∧ F123 (w.getD 2 default) ≤ 9 ∧ 1 ≤ F123 (w.getD 3 default) ∧ F123 (w.getD 3 default) ≤ 999999
def natP (w : List ByteArray) : Prop := (w.getD 0 default).data.toList = [110, 97, 116] ∧ w.length = 5 ∧ F94 (w.getD 1 default) = true ∧ F95 (w.getD 2 default) ≥ 0 ∧ 1 ≤ F123 (w.getD 3 default) ∧ F123 (w.getD 3 default) ≤ 65535 ∧ 1 ≤ F123 (w.getD 4 default) ∧ F123 (w.getD 4 default) ≤ 65535
def doorP (w : List ByteArray) : Prop := (w.getD 0 default).data.toList = [100, 111, 111, 114] ∧ w.length = 5 ∧ 1 ≤ F123 (w.getD 1 default) ∧ F123 (w.getD 1 default) ≤ 7 ∧ 1 ≤ F123 (w.getD 2 default) ∧ F123 (w.getD 2 default) ≤ 65535 ∧ F95 (w.getD 3 default) ≥ 0 ∧ 1 ≤ F123 (w.getD 4 default) ∧ F123 (w.getD 4 default) ≤ 65535
def FormP (w : List ByteArray) : Prop := hostP w ∨ userP w ∨ portP w ∨ ruleP w ∨ routeP w ∨ peerP w ∨ natP w ∨ doorP w
theorem form_cases (w : List ByteArray) (hF : F36 w = true) : FormP w := by
 have hw : w.length ≠ 0 := fun h => by
  obtain rfl := List.eq_nil_of_length_eq_zero h
  exact Bool.false_ne_true hF
 have h0 : ((w.length : Int) == 0) = false := by rw [beq_eq_false_iff_ne]; omega
 have e0 : w.getD (Int.toNat 0) default = w.getD 0 default := rfl
 have e1 : w.getD (Int.toNat 1) default = w.getD 1 default := rfl
 have e2 : w.getD (Int.toNat 2) default = w.getD 2 default := rfl
 have e3 : w.getD (Int.toNat 3) default = w.getD 3 default := rfl
 have e4 : w.getD (Int.toNat 4) default = w.getD 4 default := rfl
 have e5 : w.getD (Int.toNat 5) default = w.getD 5 default := rfl
 have e6 : w.getD (Int.toNat 6) default = w.getD 6 default := rfl
 have n2 := len_dec w 2
 have n3 := len_dec w 3
 have n4 := len_dec w 4
 have n5 := len_dec w 5
 have n7 := len_dec w 7
 simp only [Int.cast_ofNat_Int] at n2 n3 n4 n5 n7
 unfold F36 at hF
 simp only [h0, cond_false, e0, e1, e2, e3, e4, e5, e6, n2, n3, n4, n5, n7] at hF
 rcases Classical.em ((w.getD 0 default).data.toList = [104, 111, 115, 116]) with h | hn0
 ·simp only [blit, h, hd00, cond_true, cond_false, cb1, cb2, Bool.and_eq_true, Bool.or_eq_true, decide_eq_true_eq, beq_iff_eq, and_assoc] at hF
  exact Or.inl ⟨h, hF⟩
 rcases Classical.em ((w.getD 0 default).data.toList = [117, 115, 101, 114]) with h | hn1
 ·simp only [blit, h, hd10, hd11, cond_true, cond_false, cb1, cb2, Bool.and_eq_true, Bool.or_eq_true, decide_eq_true_eq, beq_iff_eq, and_assoc] at hF
  exact Or.inr (Or.inl ⟨h, hF⟩)
 rcases Classical.em ((w.getD 0 default).data.toList = [112, 111, 114, 116]) with h | hn2
 ·simp only [blit, h, hd20, hd21, hd22, cond_true, cond_false, cb1, cb2, Bool.and_eq_true, Bool.or_eq_true, decide_eq_true_eq, beq_iff_eq, and_assoc] at hF
  exact Or.inr (Or.inr (Or.inl ⟨h, hF⟩))
 rcases Classical.em ((w.getD 0 default).data.toList = [114, 117, 108, 101]) with h | hn3
 ·simp only [blit, h, hd30, hd31, hd32, hd33, cond_true, cond_false, cb1, cb2, Bool.and_eq_true, Bool.or_eq_true, decide_eq_true_eq, beq_iff_eq, and_assoc] at hF
  exact Or.inr (Or.inr (Or.inr (Or.inl ⟨h, hF⟩)))
 rcases Classical.em ((w.getD 0 default).data.toList = [114, 111, 117, 116, 101]) with h | hn4
 ·simp only [blit, h, hd40, hd41, hd42, hd43, hd44, cond_true, cond_false, cb1, cb2, Bool.and_eq_true, Bool.or_eq_true, decide_eq_true_eq, beq_iff_eq, and_assoc] at hF
  exact Or.inr (Or.inr (Or.inr (Or.inr (Or.inl ⟨h, hF⟩))))
 rcases Classical.em ((w.getD 0 default).data.toList = [112, 101, 101, 114]) with h | hn5
 ·simp only [blit, h, hd50, hd51, hd52, hd53, hd54, hd55, cond_true, cond_false, cb1, cb2, Bool.and_eq_true, Bool.or_eq_true, decide_eq_true_eq, beq_iff_eq, and_assoc] at hF
  exact Or.inr (Or.inr (Or.inr (Or.inr (Or.inr (Or.inl ⟨h, hF⟩)))))
 rcases Classical.em ((w.getD 0 default).data.toList = [110, 97, 116]) with h | hn6
 ·simp only [blit, h, hd60, hd61, hd62, hd63, hd64, hd65, hd66, cond_true, cond_false, cb1, cb2, Bool.and_eq_true, Bool.or_eq_true, decide_eq_true_eq, beq_iff_eq, and_assoc] at hF
  exact Or.inr (Or.inr (Or.inr (Or.inr (Or.inr (Or.inr (Or.inl ⟨h, hF⟩))))))
 rcases Classical.em ((w.getD 0 default).data.toList = [100, 111, 111, 114]) with h | hn7
 ·simp only [blit, h, hd70, hd71, hd72, hd73, hd74, hd75, hd76, hd77, cond_true, cond_false, cb1, cb2, Bool.and_eq_true, Bool.or_eq_true, decide_eq_true_eq, beq_iff_eq, and_assoc] at hF
  exact Or.inr (Or.inr (Or.inr (Or.inr (Or.inr (Or.inr (Or.inr (⟨h, hF⟩)))))))
 exfalso
 simp only [blit, beq_eq_false_iff_ne.2 hn0, beq_eq_false_iff_ne.2 hn1, beq_eq_false_iff_ne.2 hn2, beq_eq_false_iff_ne.2 hn3, beq_eq_false_iff_ne.2 hn4, beq_eq_false_iff_ne.2 hn5, beq_eq_false_iff_ne.2 hn6, beq_eq_false_iff_ne.2 hn7, cond_false] at hF
 exact Bool.false_ne_true hF
theorem form_two_le (w : List ByteArray) (h : FormP w) : 2 ≤ w.length ∧ w.length ≤ 7 := by
 unfold FormP hostP userP portP ruleP routeP peerP natP doorP at h
 omega
theorem form_key_le (w : List ByteArray) (h : FormP w) : 1 ≤ keyN (w.getD 0 default).data.toList ∧ keyN (w.getD 0 default).data.toList ≤ 3 ∧ keyN (w.getD 0 default).data.toList ≤ (w.length : Int) := by
 rcases h with h | h | h | h | h | h | h | h
 ·have hk : keyN (w.getD 0 default).data.toList = 1 := by rw [h.1]; decide
  unfold hostP at h
  omega
 ·have hk : keyN (w.getD 0 default).data.toList = 2 := by rw [h.1]; decide
  unfold userP at h
  omega
 ·have hk : keyN (w.getD 0 default).data.toList = 2 := by rw [h.1]; decide
  unfold portP at h
  omega
 ·have hk : keyN (w.getD 0 default).data.toList = 3 := by rw [h.1]; decide
  unfold ruleP at h
  omega
 ·have hk : keyN (w.getD 0 default).data.toList = 3 := by rw [h.1]; decide
  unfold routeP at h
  omega
 ·have hk : keyN (w.getD 0 default).data.toList = 2 := by rw [h.1]; decide
  unfold peerP at h
  omega
 ·have hk : keyN (w.getD 0 default).data.toList = 1 := by rw [h.1]; decide
  unfold natP at h
  omega
 ·have hk : keyN (w.getD 0 default).data.toList = 3 := by rw [h.1]; decide
  unfold doorP at h
  omega
theorem splitL_no (c : UInt8) : ∀ (l : List UInt8), ∀ w ∈ splitL c l, c ∉ w
 | [], w, h => by rw [splitL, List.mem_singleton] at h; rw [h]; exact List.not_mem_nil
 | b :: l, w, h => by
  have ih := splitL_no c l
  rw [splitL] at h
  by_cases hb : b = c
  ·rw [if_pos hb] at h
   rcases List.mem_cons.1 h with rfl | h
   ·exact List.not_mem_nil
   ·exact ih w h
  ·rw [if_neg hb] at h
   have hbc : ¬ c = b := fun e => hb e.symm
   cases hs : splitL c l with
   | nil =>
    rw [hs] at h
    rw [List.mem_singleton] at h; rw [h]
    intro hm; rcases List.mem_cons.1 hm with e | e
    ·exact hbc e
    ·cases e
   | cons p ps =>
    rw [hs] at h ih
    rcases List.mem_cons.1 h with rfl | h
    ·intro hm; rcases List.mem_cons.1 hm with e | e
     ·exact hbc e
     ·exact ih p List.mem_cons_self e
    ·exact ih w (List.mem_cons_of_mem _ h)
theorem split_join (c : UInt8) : ∀ (ws : List (List UInt8)), ws ≠ [] → (∀ w ∈ ws, c ∉ w) → splitL c (Lib.join ws [c]) = ws
 | [], h, _ => absurd rfl h
 | [x], _, h => by rw [Lib.join_one, splitL_none (h x List.mem_cons_self)]
 | x :: y :: r, _, h => by
  have ih := split_join c (y :: r) (by simp) fun w hw => h w (List.mem_cons_of_mem _ hw)
  rw [Lib.join_cons]
  have e : Lib.joinTail [c] (y :: r) = c :: Lib.join (y :: r) [c] := by rw [Lib.join_cons]; rfl
  rw [e, splitL_app _ (h x List.mem_cons_self), ih]
theorem word_no (line : ByteArray) : ∀ w ∈ (F11 line).1, (32 : UInt8) ∉ w.data.toList ∧ w.data.toList ≠ [] ∧ w.size ≤ 24 := by
 rw [spec_words]
 unfold wordsOf fitW
 cases h : (((cut3 line (⟨#[35]⟩ : ByteArray)).1.data.toList.all okB) && (decide ((wordsL (cut3 line (⟨#[35]⟩ : ByteArray)).1.data.toList).length ≤ 8) && (wordsL (cut3 line (⟨#[35]⟩ : ByteArray)).1.data.toList).all fun w => decide (w.length ≤ 24))) with
 | false => intro w hw; rw [cond_false] at hw; cases hw
 | true =>
  rw [cond_true]
  simp only [Bool.and_eq_true] at h
  intro w hw
  obtain ⟨l, hl, rfl⟩ := List.mem_map.1 hw
  have h1 := of_decide_eq_true (List.all_eq_true.1 h.2.2 l hl)
  have h2 := List.mem_filter.1 hl
  refine ⟨splitL_no 32 _ l h2.1, ?_, h1⟩
  intro e
  have e' : l = [] := e
  rw [e'] at h2
  exact Bool.false_ne_true h2.2
structure KeptP (line : ByteArray) (w : List ByteArray) : Prop where
 words : F11 line = (w, true)
 form : FormP w
 joins : joinS w (⟨#[32]⟩ : ByteArray) = line
 splits : splitS line (⟨#[32]⟩ : ByteArray) = w
 no : ∀ x ∈ w, (32 : UInt8) ∉ x.data.toList ∧ x.data.toList ≠ [] ∧ x.size ≤ 24
theorem join_split (w : List ByteArray) (h0 : w ≠ []) (h : ∀ x ∈ w, (32 : UInt8) ∉ x.data.toList) : splitS (joinS w (⟨#[32]⟩ : ByteArray)) (⟨#[32]⟩ : ByteArray) = w := by
 rw [splitS_mk]
 have e : (joinS w (⟨#[32]⟩ : ByteArray)).data.toList = Lib.join (w.map (·.data.toList)) [32] := rfl
 rw [e, split_join 32 _ (by simpa using h0) (fun x hx => by obtain ⟨y, hy, rfl⟩ := List.mem_map.1 hx; exact h y hy), List.map_map]
 exact (List.map_congr_left fun x _ => mkB_self x).trans (List.map_id _)
theorem specLine_eq (line : ByteArray) : F9 line = bif (F11 line).2 && F36 (F11 line).1 then (joinS (F11 line).1 (⟨#[32]⟩ : ByteArray), true) else ((⟨#[]⟩ : ByteArray), false) := by
 unfold F9
 rw [specJoin_eq]
 cases (F11 line).2 <;> cases F36 (F11 line).1 <;> rfl
theorem beq_ba (a b : ByteArray) : (a.toList == b.toList) = decide (a = b) := by
 rw [byteToList, byteToList]
 by_cases h : a = b
 ·rw [h, decide_eq_true rfl]; simp
 ·rw [decide_eq_false h, beq_eq_false_iff_ne]; exact fun e => h (ba_ext e)
theorem kept_of (line : ByteArray) (h : (F9 line).2 = true ∧ (F9 line).1 = line) : KeptP line (F11 line).1 := by
 rw [specLine_eq] at h
 cases hc : ((F11 line).2 && F36 (F11 line).1) with
 | false => rw [hc, cond_false] at h; exact absurd h.1 Bool.false_ne_true
 | true =>
  rw [hc, cond_true] at h
  simp only [Bool.and_eq_true] at hc
  have hf := form_cases _ hc.2
  have hn := word_no line
  refine ⟨Prod.ext rfl hc.1, hf, h.2, ?_, hn⟩
  have hne : (F11 line).1 ≠ [] := fun e => by have := (form_two_le _ hf).1; rw [e] at this; simp at this
  have := join_split _ hne fun x hx => (hn x hx).1
  have e : joinS (F11 line).1 (⟨#[32]⟩ : ByteArray) = line := h.2
  rwa [e] at this
theorem kc8 (line : ByteArray) {K_ : Prop} (p0_ : line.size ≤ 1048576) (k_ : K_) : (line.size ≤ 1048576) ∧ (Imp (.v (.string line)) (.v (.string line))) ∧ K_ := ⟨p0_, Imp.refl _, k_⟩
abbrev kh8 (line : ByteArray) : Hint false Tryz.prog := .call 8 (S8 line) (ok8 line) none
def F46 (line : ByteArray) : Bool :=
 (bif (F8 line).2 then (((F8 line).1).toList == line.toList) else false)
def S46 (line : ByteArray) : Spec := ⟨[.r (.c (.v (.string line)))], .v (.bool (F46 line)), line.size ≤ 1048576⟩
theorem ok46 (line : ByteArray) : (S46 line).ok Tryz.prog 46 false :=
 fnG_ok mixed (fn := Tryz.f46) (ct := .seq .no (.seq (.reg [(1, kh8 line)]) (.seq .no .no))) Tryz.func46 (fun (hpre0 : line.size ≤ 1048576) => kc8 line (by omega) (fiB (bif (F8 line).2 then (((F8 line).1).toList == line.toList) else false) (F46 line) rfl)) (by kernel_rfl)
theorem kc9 (line : ByteArray) {K_ : Prop} (p0_ : line.size ≤ 1048576) (k_ : K_) : (line.size ≤ 1048576) ∧ (Imp (.v (.string line)) (.v (.string line))) ∧ K_ := ⟨p0_, Imp.refl _, k_⟩
abbrev kh9 (line : ByteArray) : Hint true Tryz.prog := .call 9 (S9 line) (ok9 line) none
def F47 (line : ByteArray) : Bool :=
 (bif (F9 line).2 then (((F9 line).1).toList == line.toList) else false)
def S47 (line : ByteArray) : Spec := ⟨[.r (.c (.v (.string line)))], .v (.bool (F47 line)), line.size ≤ 1048576⟩
theorem ok47 (line : ByteArray) : (S47 line).ok Tryz.prog 47 :=
 fnG_ok mixed (fn := Tryz.f47) (ct := .seq .no (.seq (.reg [(1, kh9 line)]) (.seq .no .no))) Tryz.func47 (fun (hpre0 : line.size ≤ 1048576) => kc9 line (by omega) (fiB (bif (F9 line).2 then (((F9 line).1).toList == line.toList) else false) (F47 line) rfl)) (by kernel_rfl)
theorem keptSo_eq (line : ByteArray) : F46 line = F47 line := by
 unfold F46 F47
 rw [line_same]
theorem kept_iff (line : ByteArray) : F47 line = true ↔ (F9 line).2 = true ∧ (F9 line).1 = line := by
 unfold F47
 rw [cb1, beq_ba, Bool.and_eq_true, decide_eq_true_eq]
theorem keptP (line : ByteArray) (h : F47 line = true) : KeptP line (F11 line).1 := kept_of line ((kept_iff line).1 h)
theorem not_false {b : Bool} (h : (!b) = false) : b = true := by cases b; exact h.symm; rfl
theorem kix_n (line : ByteArray) (hk : (!F47 line) = false) : (2 : Int) ≤ ((F11 line).1.length : Int) := by
 have := (form_two_le _ (keptP line (not_false hk)).form).1; omega
theorem kix0 (line : ByteArray) (hk : (!F47 line) = false) : (0 : Int) ≤ 0 ∧ (0 : Int) < ((F11 line).1.length : Int) := by have := kix_n line hk; omega
theorem kix1 (line : ByteArray) (hk : (!F47 line) = false) : (0 : Int) ≤ 1 ∧ (1 : Int) < ((F11 line).1.length : Int) := by have := kix_n line hk; omega
theorem kix_rule (line : ByteArray) (hk : (!F47 line) = false) (h : (((F11 line).1.getD (Int.toNat 0) default).toList == (⟨#[114, 117, 108, 101]⟩ : ByteArray).toList) = true) : (0 : Int) ≤ 2 ∧ (2 : Int) < ((F11 line).1.length : Int) := by
 have hf := (keptP line (not_false hk)).form
 rw [blit, beq_iff_eq] at h
 have h : ((F11 line).1.getD 0 default).data.toList = [114, 117, 108, 101] := h
 unfold FormP hostP userP portP ruleP routeP peerP natP doorP at hf
 simp only [h] at hf
 simp at hf
 omega
theorem kix_door (line : ByteArray) (hk : (!F47 line) = false) (h : (((F11 line).1.getD (Int.toNat 0) default).toList == (⟨#[100, 111, 111, 114]⟩ : ByteArray).toList) = true) : (0 : Int) ≤ 2 ∧ (2 : Int) < ((F11 line).1.length : Int) := by
 have hf := (keptP line (not_false hk)).form
 rw [blit, beq_iff_eq] at h
 have h : ((F11 line).1.getD 0 default).data.toList = [100, 111, 111, 114] := h
 unfold FormP hostP userP portP ruleP routeP peerP natP doorP at hf
 simp only [h] at hf
 simp at hf
 omega
theorem form_true (line : ByteArray) (h : F47 line = true) : F36 (F11 line).1 = true := by
 have := ((kept_iff line).1 h).1
 rw [specLine_eq] at this
 cases hc : F36 (F11 line).1 with
 | true => rfl
 | false => rw [hc, Bool.and_false, cond_false] at this; exact this
theorem kept_form (line : ByteArray) (h : F47 line = true) : (F34 (F41 line (⟨#[32]⟩ : ByteArray))).1.key = keyN (((F11 line).1.getD 0 default).data.toList) ∧ F41 line (⟨#[32]⟩ : ByteArray) = (F11 line).1 := by
 have hk := keptP line h
 have e : F41 line (⟨#[32]⟩ : ByteArray) = (F11 line).1 := hk.splits
 rw [e]
 obtain ⟨f1, f2⟩ := form_same (F11 line).1
 exact ⟨f2 (f1.trans (form_true line h)), rfl⟩
theorem kept_key (line : ByteArray) (h : F46 line = true) : 0 ≤ ((F34 (F41 line (⟨#[32]⟩ : ByteArray))).1).key ∧ ((F34 (F41 line (⟨#[32]⟩ : ByteArray))).1).key ≤ ((F41 line (⟨#[32]⟩ : ByteArray)).length : Int) := by
 rw [keptSo_eq] at h
 obtain ⟨k1, k2⟩ := kept_form line h
 have := form_key_le _ (keptP line h).form
 rw [k1, k2]
 omega
theorem split_sz (line : ByteArray) (h : line.size ≤ 1048576) : ∀ k : Nat, ((F41 line (⟨#[32]⟩ : ByteArray)).getD k default).size ≤ 1048576 := fun k => by
 show ((splitS line (⟨#[32]⟩ : ByteArray)).getD k default).size ≤ 1048576
 rw [splitS_mk]
 refine getD_mk_le _ _ (fun w hw => ?_) k
 have := splitL_le 32 _ w hw
 have hl : line.data.toList.length = line.size := Array.length_toList
 omega
theorem take_getD (ws : List ByteArray) (n m : Nat) (h : ∀ k : Nat, (ws.getD k default).size ≤ m) (k : Nat) : ((ws.take n).getD k default).size ≤ m := by
 rw [List.getD_eq_getElem?_getD, List.getElem?_take]
 by_cases hk : k < n
 ·rw [if_pos hk, ← List.getD_eq_getElem?_getD]; exact h k
 ·rw [if_neg hk]; exact Nat.zero_le _
theorem kept_join (line : ByteArray) (hk : (!F46 line) = false) :
  ((F41 line (⟨#[32]⟩ : ByteArray)).take (Int.toNat (((F34 (F41 line (⟨#[32]⟩ : ByteArray))).1).key))).length ≤ 140737488355328 ∧
  (joinS ((F41 line (⟨#[32]⟩ : ByteArray)).take (Int.toNat (((F34 (F41 line (⟨#[32]⟩ : ByteArray))).1).key))) (⟨#[32]⟩ : ByteArray)).size ≤ 140737488355328 := by
 have h := not_false hk
 rw [keptSo_eq] at h
 obtain ⟨k1, k2⟩ := kept_form line h
 rw [k2]
 have hl : (((F11 line).1).take (Int.toNat (((F34 ((F11 line).1)).1).key))).length ≤ 8 := by
  rw [List.length_take]
  have := specwords_len line
  omega
 exact ⟨Nat.le_trans hl (by decide), join_small _ _ (take_getD _ _ _ (specwords_sz line)) hl (by decide)⟩
theorem kc46 (line : ByteArray) {K_ : Prop} (p0_ : line.size ≤ 1048576) (k_ : K_) : (line.size ≤ 1048576) ∧ (Imp (.v (.string line)) (.v (.string line))) ∧ K_ := ⟨p0_, Imp.refl _, k_⟩
abbrev kh46 (line : ByteArray) : Hint false Tryz.prog := .call 46 (S46 line) (ok46 line) none
def F13 (line : ByteArray) : ByteArray :=
 bif (!(F46 line)) then (⟨#[]⟩ : ByteArray) else (F35 ((F41 line (⟨#[32]⟩ : ByteArray)).take (Int.toNat (((F34 (F41 line (⟨#[32]⟩ : ByteArray))).1).key))) (⟨#[32]⟩ : ByteArray))
def S13 (line : ByteArray) : Spec := ⟨[.r (.c (.v (.string line)))], .v (.string (F13 line)), line.size ≤ 1048576⟩
theorem ok13 (line : ByteArray) : (S13 line).ok Tryz.prog 13 false :=
 fnG_ok mixed (fn := Tryz.f13) (ct := .seq .no (.seq (.seq (.reg [(1, kh46 line)]) (.cond (.seq .no .no) .no)) (.seq (.reg [(1, kh41f line w15_)]) (.seq (.reg [(1, kh34 (F41 line w15_))]) (.seq (.reg [(4, kh35 ((F41 line w15_).take (Int.toNat (((F34 (F41 line w15_)).1).key))) w15_)]) .no))))) Tryz.func13 (fun (hpre0 : line.size ≤ 1048576) => kc46 line (by omega) (ifb (!(F46 line)) (fun h1 => fiS w13_ (F13 line) (condT h1 rfl)) (fun h1 => have _ : 0 ≤ ((F34 (F41 line w15_)).1).key ∧ ((F34 (F41 line w15_)).1).key ≤ ((F41 line w15_).length : Int) := kept_key line (notEF h1); kc41 line w15_ (by omega) (by decide) (by decide) (by decide) (fun gv2 gv3 => kc34 (F41 line w15_) (by exact split_sz line (by omega)) (ai (by omega : 0 ≤ (0 : Int) ∧ (0 : Int) ≤ ((F34 (F41 line w15_)).1).key ∧ ((F34 (F41 line w15_)).1).key ≤ ((F41 line w15_).length : Int)) (kc35 ((F41 line w15_).take (Int.toNat (((F34 (F41 line w15_)).1).key))) w15_ (by exact (kept_join _ (by assumption)).1) (by exact (kept_join _ (by assumption)).2) (fiS (F35 ((F41 line w15_).take (Int.toNat (((F34 (F41 line w15_)).1).key))) w15_) (F13 line) (condF h1 rfl)))))))) (by kernel_rfl)
theorem kc47 (line : ByteArray) {K_ : Prop} (p0_ : line.size ≤ 1048576) (k_ : K_) : (line.size ≤ 1048576) ∧ (Imp (.v (.string line)) (.v (.string line))) ∧ K_ := ⟨p0_, Imp.refl _, k_⟩
abbrev kh47 (line : ByteArray) : Hint true Tryz.prog := .call 47 (S47 line) (ok47 line) none
def F14 (line : ByteArray) : ByteArray :=
 bif (!(F47 line)) then (⟨#[]⟩ : ByteArray) else (bif ((((F11 line).1).getD (Int.toNat 0) default).toList == (⟨#[104, 111, 115, 116]⟩ : ByteArray).toList) then (bif ((((F11 line).1).getD (Int.toNat 0) default).toList == (⟨#[104, 111, 115, 116]⟩ : ByteArray).toList) then (((F11 line).1).getD (Int.toNat 0) default) else (bif ((((F11 line).1).getD (Int.toNat 0) default).toList == (⟨#[117, 115, 101, 114]⟩ : ByteArray).toList) then (bif ((((F11 line).1).getD (Int.toNat 0) default).toList == (⟨#[117, 115, 101, 114]⟩ : ByteArray).toList) then (((((F11 line).1).getD (Int.toNat 0) default) ++ (⟨#[32]⟩ : ByteArray)) ++ (((F11 line).1).getD (Int.toNat 1) default)) else (bif ((((F11 line).1).getD (Int.toNat 0) default).toList == (⟨#[114, 117, 108, 101]⟩ : ByteArray).toList) then (bif ((((F11 line).1).getD (Int.toNat 0) default).toList == (⟨#[114, 117, 108, 101]⟩ : ByteArray).toList) then (((((((F11 line).1).getD (Int.toNat 0) default) ++ (⟨#[32]⟩ : ByteArray)) ++ (((F11 line).1).getD (Int.toNat 1) default)) ++ (⟨#[32]⟩ : ByteArray)) ++ (((F11 line).1).getD (Int.toNat 2) default)) else line) else (bif ((((F11 line).1).getD (Int.toNat 0) default).toList == (⟨#[100, 111, 111, 114]⟩ : ByteArray).toList) then (((((((F11 line).1).getD (Int.toNat 0) default) ++ (⟨#[32]⟩ : ByteArray)) ++ (((F11 line).1).getD (Int.toNat 1) default)) ++ (⟨#[32]⟩ : ByteArray)) ++ (((F11 line).1).getD (Int.toNat 2) default)) else line))) else (bif ((((F11 line).1).getD (Int.toNat 0) default).toList == (⟨#[112, 111, 114, 116]⟩ : ByteArray).toList) then (bif ((((F11 line).1).getD (Int.toNat 0) default).toList == (⟨#[112, 111, 114, 116]⟩ : ByteArray).toList) then (((((F11 line).1).getD (Int.toNat 0) default) ++ (⟨#[32]⟩ : ByteArray)) ++ (((F11 line).1).getD (Int.toNat 1) default)) else (bif ((((F11 line).1).getD (Int.toNat 0) default).toList == (⟨#[114, 117, 108, 101]⟩ : ByteArray).toList) then (bif ((((F11 line).1).getD (Int.toNat 0) default).toList == (⟨#[114, 117, 108, 101]⟩ : ByteArray).toList) then (((((((F11 line).1).getD (Int.toNat 0) default) ++ (⟨#[32]⟩ : ByteArray)) ++ (((F11 line).1).getD (Int.toNat 1) default)) ++ (⟨#[32]⟩ : ByteArray)) ++ (((F11 line).1).getD (Int.toNat 2) default)) else line) else (bif ((((F11 line).1).getD (Int.toNat 0) default).toList == (⟨#[100, 111, 111, 114]⟩ : ByteArray).toList) then (((((((F11 line).1).getD (Int.toNat 0) default) ++ (⟨#[32]⟩ : ByteArray)) ++ (((F11 line).1).getD (Int.toNat 1) default)) ++ (⟨#[32]⟩ : ByteArray)) ++ (((F11 line).1).getD (Int.toNat 2) default)) else line))) else (bif ((((F11 line).1).getD (Int.toNat 0) default).toList == (⟨#[112, 101, 101, 114]⟩ : ByteArray).toList) then (((((F11 line).1).getD (Int.toNat 0) default) ++ (⟨#[32]⟩ : ByteArray)) ++ (((F11 line).1).getD (Int.toNat 1) default)) else (bif ((((F11 line).1).getD (Int.toNat 0) default).toList == (⟨#[114, 117, 108, 101]⟩ : ByteArray).toList) then (bif ((((F11 line).1).getD (Int.toNat 0) default).toList == (⟨#[114, 117, 108, 101]⟩ : ByteArray).toList) then (((((((F11 line).1).getD (Int.toNat 0) default) ++ (⟨#[32]⟩ : ByteArray)) ++ (((F11 line).1).getD (Int.toNat 1) default)) ++ (⟨#[32]⟩ : ByteArray)) ++ (((F11 line).1).getD (Int.toNat 2) default)) else line) else (bif ((((F11 line).1).getD (Int.toNat 0) default).toList == (⟨#[100, 111, 111, 114]⟩ : ByteArray).toList) then (((((((F11 line).1).getD (Int.toNat 0) default) ++ (⟨#[32]⟩ : ByteArray)) ++ (((F11 line).1).getD (Int.toNat 1) default)) ++ (⟨#[32]⟩ : ByteArray)) ++ (((F11 line).1).getD (Int.toNat 2) default)) else line)))))) else (bif ((((F11 line).1).getD (Int.toNat 0) default).toList == (⟨#[110, 97, 116]⟩ : ByteArray).toList) then (((F11 line).1).getD (Int.toNat 0) default) else (bif ((((F11 line).1).getD (Int.toNat 0) default).toList == (⟨#[117, 115, 101, 114]⟩ : ByteArray).toList) then (bif ((((F11 line).1).getD (Int.toNat 0) default).toList == (⟨#[117, 115, 101, 114]⟩ : ByteArray).toList) then (((((F11 line).1).getD (Int.toNat 0) default) ++ (⟨#[32]⟩ : ByteArray)) ++ (((F11 line).1).getD (Int.toNat 1) default)) else (bif ((((F11 line).1).getD (Int.toNat 0) default).toList == (⟨#[114, 117, 108, 101]⟩ : ByteArray).toList) then (bif ((((F11 line).1).getD (Int.toNat 0) default).toList == (⟨#[114, 117, 108, 101]⟩ : ByteArray).toList) then (((((((F11 line).1).getD (Int.toNat 0) default) ++ (⟨#[32]⟩ : ByteArray)) ++ (((F11 line).1).getD (Int.toNat 1) default)) ++ (⟨#[32]⟩ : ByteArray)) ++ (((F11 line).1).getD (Int.toNat 2) default)) else line) else (bif ((((F11 line).1).getD (Int.toNat 0) default).toList == (⟨#[100, 111, 111, 114]⟩ : ByteArray).toList) then (((((((F11 line).1).getD (Int.toNat 0) default) ++ (⟨#[32]⟩ : ByteArray)) ++ (((F11 line).1).getD (Int.toNat 1) default)) ++ (⟨#[32]⟩ : ByteArray)) ++ (((F11 line).1).getD (Int.toNat 2) default)) else line))) else (bif ((((F11 line).1).getD (Int.toNat 0) default).toList == (⟨#[112, 111, 114, 116]⟩ : ByteArray).toList) then (bif ((((F11 line).1).getD (Int.toNat 0) default).toList == (⟨#[112, 111, 114, 116]⟩ : ByteArray).toList) then (((((F11 line).1).getD (Int.toNat 0) default) ++ (⟨#[32]⟩ : ByteArray)) ++ (((F11 line).1).getD (Int.toNat 1) default)) else (bif ((((F11 line).1).getD (Int.toNat 0) default).toList == (⟨#[114, 117, 108, 101]⟩ : ByteArray).toList) then (bif ((((F11 line).1).getD (Int.toNat 0) default).toList == (⟨#[114, 117, 108, 101]⟩ : ByteArray).toList) then (((((((F11 line).1).getD (Int.toNat 0) default) ++ (⟨#[32]⟩ : ByteArray)) ++ (((F11 line).1).getD (Int.toNat 1) default)) ++ (⟨#[32]⟩ : ByteArray)) ++ (((F11 line).1).getD (Int.toNat 2) default)) else line) else (bif ((((F11 line).1).getD (Int.toNat 0) default).toList == (⟨#[100, 111, 111, 114]⟩ : ByteArray).toList) then (((((((F11 line).1).getD (Int.toNat 0) default) ++ (⟨#[32]⟩ : ByteArray)) ++ (((F11 line).1).getD (Int.toNat 1) default)) ++ (⟨#[32]⟩ : ByteArray)) ++ (((F11 line).1).getD (Int.toNat 2) default)) else line))) else (bif ((((F11 line).1).getD (Int.toNat 0) default).toList == (⟨#[112, 101, 101, 114]⟩ : ByteArray).toList) then (((((F11 line).1).getD (Int.toNat 0) default) ++ (⟨#[32]⟩ : ByteArray)) ++ (((F11 line).1).getD (Int.toNat 1) default)) else (bif ((((F11 line).1).getD (Int.toNat 0) default).toList == (⟨#[114, 117, 108, 101]⟩ : ByteArray).toList) then (bif ((((F11 line).1).getD (Int.toNat 0) default).toList == (⟨#[114, 117, 108, 101]⟩ : ByteArray).toList) then (((((((F11 line).1).getD (Int.toNat 0) default) ++ (⟨#[32]⟩ : ByteArray)) ++ (((F11 line).1).getD (Int.toNat 1) default)) ++ (⟨#[32]⟩ : ByteArray)) ++ (((F11 line).1).getD (Int.toNat 2) default)) else line) else (bif ((((F11 line).1).getD (Int.toNat 0) default).toList == (⟨#[100, 111, 111, 114]⟩ : ByteArray).toList) then (((((((F11 line).1).getD (Int.toNat 0) default) ++ (⟨#[32]⟩ : ByteArray)) ++ (((F11 line).1).getD (Int.toNat 1) default)) ++ (⟨#[32]⟩ : ByteArray)) ++ (((F11 line).1).getD (Int.toNat 2) default)) else line)))))))
def S14 (line : ByteArray) : Spec := ⟨[.r (.c (.v (.string line)))], .v (.string (F14 line)), line.size ≤ 1048576⟩
theorem ok14 (line : ByteArray) : (S14 line).ok Tryz.prog 14 :=
 fnG_ok mixed (fn := Tryz.f14) (ct := .seq .no (.seq (.seq (.reg [(1, kh47 line)]) (.cond (.seq .no .no) .no)) (.seq (.reg [(1, kh11 line)]) (.seq (.seq .no (.blk (.seq (.seq .no (.cond .no .no)) (.cond (.seq .no .no) (.seq (.seq .no (.cond .no (.seq .no (.cond .no .no)))) (.cond (.seq .no .no) (.seq (.seq .no (.cond .no .no)) (.cond (.seq .no .no) .no)))))))) (.seq .no .no))))) Tryz.func14 (fun (hpre0 : line.size ≤ 1048576) => kc47 line (by omega) (ifb (!(F47 line)) (fun h1 => fiS w13_ (F14 line) (condT h1 rfl)) (fun h1 => kc11 line (by omega) (fun gv2 gv3 => ai (by (exact kix0 _ (by assumption)) : 0 ≤ (0 : Int) ∧ (0 : Int) < (((F11 line).1).length : Int)) (ifb ((((F11 line).1).getD (Int.toNat 0) default).toList == w4_.toList) (fun h4 => ifb ((((F11 line).1).getD (Int.toNat 0) default).toList == w4_.toList) (fun h5 => ai (by (exact kix0 _ (by assumption)) : 0 ≤ (0 : Int) ∧ (0 : Int) < (((F11 line).1).length : Int)) (fiS (((F11 line).1).getD (Int.toNat 0) default) (F14 line) (condF h1 (condT h4 (condT h5 rfl))))) (fun h5 => ifb ((((F11 line).1).getD (Int.toNat 0) default).toList == w10_.toList) (fun h6 => ifb ((((F11 line).1).getD (Int.toNat 0) default).toList == w10_.toList) (fun h7 => ai (by (exact kix0 _ (by assumption)) : 0 ≤ (0 : Int) ∧ (0 : Int) < (((F11 line).1).length : Int)) (ai (by (have hz := specwords_sz line; have hz0 := hz (Int.toNat 0); have hz1 := hz (Int.toNat 1); have hz2 := hz (Int.toNat 2); have hs : w15_.size = 1 := rfl; (try simp only [size_app] at *); omega) : (((((F11 line).1).getD (Int.toNat 0) default).size + w15_.size : Nat) : Int) ≤ 9223372036854775807) (ai (by (exact kix1 _ (by assumption)) : 0 ≤ (1 : Int) ∧ (1 : Int) < (((F11 line).1).length : Int)) (ai (by (have hz := specwords_sz line; have hz0 := hz (Int.toNat 0); have hz1 := hz (Int.toNat 1); have hz2 := hz (Int.toNat 2); have hs : w15_.size = 1 := rfl; (try simp only [size_app] at *); omega) : ((((((F11 line).1).getD (Int.toNat 0) default) ++ w15_).size + (((F11 line).1).getD (Int.toNat 1) default).size : Nat) : Int) ≤ 9223372036854775807) (fiS (((((F11 line).1).getD (Int.toNat 0) default) ++ w15_) ++ (((F11 line).1).getD (Int.toNat 1) default)) (F14 line) (condF h1 (condT h4 (condF h5 (condT h6 (condT h7 rfl)))))))))) (fun h7 => ifb ((((F11 line).1).getD (Int.toNat 0) default).toList == w9_.toList) (fun h8 => ifb ((((F11 line).1).getD (Int.toNat 0) default).toList == w9_.toList) (fun h9 => ai (by (exact kix0 _ (by assumption)) : 0 ≤ (0 : Int) ∧ (0 : Int) < (((F11 line).1).length : Int)) (ai (by (have hz := specwords_sz line; have hz0 := hz (Int.toNat 0); have hz1 := hz (Int.toNat 1); have hz2 := hz (Int.toNat 2); have hs : w15_.size = 1 := rfl; (try simp only [size_app] at *); omega) : (((((F11 line).1).getD (Int.toNat 0) default).size + w15_.size : Nat) : Int) ≤ 9223372036854775807) (ai (by (exact kix1 _ (by assumption)) : 0 ≤ (1 : Int) ∧ (1 : Int) < (((F11 line).1).length : Int)) (ai (by (have hz := specwords_sz line; have hz0 := hz (Int.toNat 0); have hz1 := hz (Int.toNat 1); have hz2 := hz (Int.toNat 2); have hs : w15_.size = 1 := rfl; (try simp only [size_app] at *); omega) : ((((((F11 line).1).getD (Int.toNat 0) default) ++ w15_).size + (((F11 line).1).getD (Int.toNat 1) default).size : Nat) : Int) ≤ 9223372036854775807) (ai (by (have hz := specwords_sz line; have hz0 := hz (Int.toNat 0); have hz1 := hz (Int.toNat 1); have hz2 := hz (Int.toNat 2); have hs : w15_.size = 1 := rfl; (try simp only [size_app] at *); omega) : (((((((F11 line).1).getD (Int.toNat 0) default) ++ w15_) ++ (((F11 line).1).getD (Int.toNat 1) default)).size + w15_.size : Nat) : Int) ≤ 9223372036854775807) (ai (by (exact kix_rule _ (by assumption) (by assumption)) : 0 ≤ (2 : Int) ∧ (2 : Int) < (((F11 line).1).length : Int)) (ai (by (have hz := specwords_sz line; have hz0 := hz (Int.toNat 0); have hz1 := hz (Int.toNat 1); have hz2 := hz (Int.toNat 2); have hs : w15_.size = 1 := rfl; (try simp only [size_app] at *); omega) : ((((((((F11 line).1).getD (Int.toNat 0) default) ++ w15_) ++ (((F11 line).1).getD (Int.toNat 1) default)) ++ w15_).size + (((F11 line).1).getD (Int.toNat 2) default).size : Nat) : Int) ≤ 9223372036854775807) (fiS (((((((F11 line).1).getD (Int.toNat 0) default) ++ w15_) ++ (((F11 line).1).getD (Int.toNat 1) default)) ++ w15_) ++ (((F11 line).1).getD (Int.toNat 2) default)) (F14 line) (condF h1 (condT h4 (condF h5 (condT h6 (condF h7 (condT h8 (condT h9 rfl))))))))))))))) (fun h9 => fiS line (F14 line) (condF h1 (condT h4 (condF h5 (condT h6 (condF h7 (condT h8 (condF h9 rfl))))))))) (fun h8 => ifb ((((F11 line).1).getD (Int.toNat 0) default).toList == w3_.toList) (fun h10 => ai (by (exact kix0 _ (by assumption)) : 0 ≤ (0 : Int) ∧ (0 : Int) < (((F11 line).1).length : Int)) (ai (by (have hz := specwords_sz line; have hz0 := hz (Int.toNat 0); have hz1 := hz (Int.toNat 1); have hz2 := hz (Int.toNat 2); have hs : w15_.size = 1 := rfl; (try simp only [size_app] at *); omega) : (((((F11 line).1).getD (Int.toNat 0) default).size + w15_.size : Nat) : Int) ≤ 9223372036854775807) (ai (by (exact kix1 _ (by assumption)) : 0 ≤ (1 : Int) ∧ (1 : Int) < (((F11 line).1).length : Int)) (ai (by (have hz := specwords_sz line; have hz0 := hz (Int.toNat 0); have hz1 := hz (Int.toNat 1); have hz2 := hz (Int.toNat 2); have hs : w15_.size = 1 := rfl; (try simp only [size_app] at *); omega) : ((((((F11 line).1).getD (Int.toNat 0) default) ++ w15_).size + (((F11 line).1).getD (Int.toNat 1) default).size : Nat) : Int) ≤ 9223372036854775807) (ai (by (have hz := specwords_sz line; have hz0 := hz (Int.toNat 0); have hz1 := hz (Int.toNat 1); have hz2 := hz (Int.toNat 2); have hs : w15_.size = 1 := rfl; (try simp only [size_app] at *); omega) : (((((((F11 line).1).getD (Int.toNat 0) default) ++ w15_) ++ (((F11 line).1).getD (Int.toNat 1) default)).size + w15_.size : Nat) : Int) ≤ 9223372036854775807) (ai (by (exact kix_door _ (by assumption) (by assumption)) : 0 ≤ (2 : Int) ∧ (2 : Int) < (((F11 line).1).length : Int)) (ai (by (have hz := specwords_sz line; have hz0 := hz (Int.toNat 0); have hz1 := hz (Int.toNat 1); have hz2 := hz (Int.toNat 2); have hs : w15_.size = 1 := rfl; (try simp only [size_app] at *); omega) : ((((((((F11 line).1).getD (Int.toNat 0) default) ++ w15_) ++ (((F11 line).1).getD (Int.toNat 1) default)) ++ w15_).size + (((F11 line).1).getD (Int.toNat 2) default).size : Nat) : Int) ≤ 9223372036854775807) (fiS (((((((F11 line).1).getD (Int.toNat 0) default) ++ w15_) ++ (((F11 line).1).getD (Int.toNat 1) default)) ++ w15_) ++ (((F11 line).1).getD (Int.toNat 2) default)) (F14 line) (condF h1 (condT h4 (condF h5 (condT h6 (condF h7 (condF h8 (condT h10 rfl))))))))))))))) (fun h10 => fiS line (F14 line) (condF h1 (condT h4 (condF h5 (condT h6 (condF h7 (condF h8 (condF h10 rfl))))))))))) (fun h6 => ifb ((((F11 line).1).getD (Int.toNat 0) default).toList == w7_.toList) (fun h11 => ifb ((((F11 line).1).getD (Int.toNat 0) default).toList == w7_.toList) (fun h12 => ai (by (exact kix0 _ (by assumption)) : 0 ≤ (0 : Int) ∧ (0 : Int) < (((F11 line).1).length : Int)) (ai (by (have hz := specwords_sz line; have hz0 := hz (Int.toNat 0); have hz1 := hz (Int.toNat 1); have hz2 := hz (Int.toNat 2); have hs : w15_.size = 1 := rfl; (try simp only [size_app] at *); omega) : (((((F11 line).1).getD (Int.toNat 0) default).size + w15_.size : Nat) : Int) ≤ 9223372036854775807) (ai (by (exact kix1 _ (by assumption)) : 0 ≤ (1 : Int) ∧ (1 : Int) < (((F11 line).1).length : Int)) (ai (by (have hz := specwords_sz line; have hz0 := hz (Int.toNat 0); have hz1 := hz (Int.toNat 1); have hz2 := hz (Int.toNat 2); have hs : w15_.size = 1 := rfl; (try simp only [size_app] at *); omega) : ((((((F11 line).1).getD (Int.toNat 0) default) ++ w15_).size + (((F11 line).1).getD (Int.toNat 1) default).size : Nat) : Int) ≤ 9223372036854775807) (fiS (((((F11 line).1).getD (Int.toNat 0) default) ++ w15_) ++ (((F11 line).1).getD (Int.toNat 1) default)) (F14 line) (condF h1 (condT h4 (condF h5 (condF h6 (condT h11 (condT h12 rfl))))))))))) (fun h12 => ifb ((((F11 line).1).getD (Int.toNat 0) default).toList == w9_.toList) (fun h13 => ifb ((((F11 line).1).getD (Int.toNat 0) default).toList == w9_.toList) (fun h14 => ai (by (exact kix0 _ (by assumption)) : 0 ≤ (0 : Int) ∧ (0 : Int) < (((F11 line).1).length : Int)) (ai (by (have hz := specwords_sz line; have hz0 := hz (Int.toNat 0); have hz1 := hz (Int.toNat 1); have hz2 := hz (Int.toNat 2); have hs : w15_.size = 1 := rfl; (try simp only [size_app] at *); omega) : (((((F11 line).1).getD (Int.toNat 0) default).size + w15_.size : Nat) : Int) ≤ 9223372036854775807) (ai (by (exact kix1 _ (by assumption)) : 0 ≤ (1 : Int) ∧ (1 : Int) < (((F11 line).1).length : Int)) (ai (by (have hz := specwords_sz line; have hz0 := hz (Int.toNat 0); have hz1 := hz (Int.toNat 1); have hz2 := hz (Int.toNat 2); have hs : w15_.size = 1 := rfl; (try simp only [size_app] at *); omega) : ((((((F11 line).1).getD (Int.toNat 0) default) ++ w15_).size + (((F11 line).1).getD (Int.toNat 1) default).size : Nat) : Int) ≤ 9223372036854775807) (ai (by (have hz := specwords_sz line; have hz0 := hz (Int.toNat 0); have hz1 := hz (Int.toNat 1); have hz2 := hz (Int.toNat 2); have hs : w15_.size = 1 := rfl; (try simp only [size_app] at *); omega) : (((((((F11 line).1).getD (Int.toNat 0) default) ++ w15_) ++ (((F11 line).1).getD (Int.toNat 1) default)).size + w15_.size : Nat) : Int) ≤ 9223372036854775807) (ai (by (exact kix_rule _ (by assumption) (by assumption)) : 0 ≤ (2 : Int) ∧ (2 : Int) < (((F11 line).1).length : Int)) (ai (by (have hz := specwords_sz line; have hz0 := hz (Int.toNat 0); have hz1 := hz (Int.toNat 1); have hz2 := hz (Int.toNat 2); have hs : w15_.size = 1 := rfl; (try simp only [size_app] at *); omega) : ((((((((F11 line).1).getD (Int.toNat 0) default) ++ w15_) ++ (((F11 line).1).getD (Int.toNat 1) default)) ++ w15_).size + (((F11 line).1).getD (Int.toNat 2) default).size : Nat) : Int) ≤ 9223372036854775807) (fiS (((((((F11 line).1).getD (Int.toNat 0) default) ++ w15_) ++ (((F11 line).1).getD (Int.toNat 1) default)) ++ w15_) ++ (((F11 line).1).getD (Int.toNat 2) default)) (F14 line) (condF h1 (condT h4 (condF h5 (condF h6 (condT h11 (condF h12 (condT h13 (condT h14 rfl)))))))))))))))) (fun h14 => fiS line (F14 line) (condF h1 (condT h4 (condF h5 (condF h6 (condT h11 (condF h12 (condT h13 (condF h14 rfl)))))))))) (fun h13 => ifb ((((F11 line).1).getD (Int.toNat 0) default).toList == w3_.toList) (fun h15 => ai (by (exact kix0 _ (by assumption)) : 0 ≤ (0 : Int) ∧ (0 : Int) < (((F11 line).1).length : Int)) (ai (by (have hz := specwords_sz line; have hz0 := hz (Int.toNat 0); have hz1 := hz (Int.toNat 1); have hz2 := hz (Int.toNat 2); have hs : w15_.size = 1 := rfl; (try simp only [size_app] at *); omega) : (((((F11 line).1).getD (Int.toNat 0) default).size + w15_.size : Nat) : Int) ≤ 9223372036854775807) (ai (by (exact kix1 _ (by assumption)) : 0 ≤ (1 : Int) ∧ (1 : Int) < (((F11 line).1).length : Int)) (ai (by (have hz := specwords_sz line; have hz0 := hz (Int.toNat 0); have hz1 := hz (Int.toNat 1); have hz2 := hz (Int.toNat 2); have hs : w15_.size = 1 := rfl; (try simp only [size_app] at *); omega) : ((((((F11 line).1).getD (Int.toNat 0) default) ++ w15_).size + (((F11 line).1).getD (Int.toNat 1) default).size : Nat) : Int) ≤ 9223372036854775807) (ai (by (have hz := specwords_sz line; have hz0 := hz (Int.toNat 0); have hz1 := hz (Int.toNat 1); have hz2 := hz (Int.toNat 2); have hs : w15_.size = 1 := rfl; (try simp only [size_app] at *); omega) : (((((((F11 line).1).getD (Int.toNat 0) default) ++ w15_) ++ (((F11 line).1).getD (Int.toNat 1) default)).size + w15_.size : Nat) : Int) ≤ 9223372036854775807) (ai (by (exact kix_door _ (by assumption) (by assumption)) : 0 ≤ (2 : Int) ∧ (2 : Int) < (((F11 line).1).length : Int)) (ai (by (have hz := specwords_sz line; have hz0 := hz (Int.toNat 0); have hz1 := hz (Int.toNat 1); have hz2 := hz (Int.toNat 2); have hs : w15_.size = 1 := rfl; (try simp only [size_app] at *); omega) : ((((((((F11 line).1).getD (Int.toNat 0) default) ++ w15_) ++ (((F11 line).1).getD (Int.toNat 1) default)) ++ w15_).size + (((F11 line).1).getD (Int.toNat 2) default).size : Nat) : Int) ≤ 9223372036854775807) (fiS (((((((F11 line).1).getD (Int.toNat 0) default) ++ w15_) ++ (((F11 line).1).getD (Int.toNat 1) default)) ++ w15_) ++ (((F11 line).1).getD (Int.toNat 2) default)) (F14 line) (condF h1 (condT h4 (condF h5 (condF h6 (condT h11 (condF h12 (condF h13 (condT h15 rfl)))))))))))))))) (fun h15 => fiS line (F14 line) (condF h1 (condT h4 (condF h5 (condF h6 (condT h11 (condF h12 (condF h13 (condF h15 rfl)))))))))))) (fun h11 => ifb ((((F11 line).1).getD (Int.toNat 0) default).toList == w6_.toList) (fun h16 => ai (by (exact kix0 _ (by assumption)) : 0 ≤ (0 : Int) ∧ (0 : Int) < (((F11 line).1).length : Int)) (ai (by (have hz := specwords_sz line; have hz0 := hz (Int.toNat 0); have hz1 := hz (Int.toNat 1); have hz2 := hz (Int.toNat 2); have hs : w15_.size = 1 := rfl; (try simp only [size_app] at *); omega) : (((((F11 line).1).getD (Int.toNat 0) default).size + w15_.size : Nat) : Int) ≤ 9223372036854775807) (ai (by (exact kix1 _ (by assumption)) : 0 ≤ (1 : Int) ∧ (1 : Int) < (((F11 line).1).length : Int)) (ai (by (have hz := specwords_sz line; have hz0 := hz (Int.toNat 0); have hz1 := hz (Int.toNat 1); have hz2 := hz (Int.toNat 2); have hs : w15_.size = 1 := rfl; (try simp only [size_app] at *); omega) : ((((((F11 line).1).getD (Int.toNat 0) default) ++ w15_).size + (((F11 line).1).getD (Int.toNat 1) default).size : Nat) : Int) ≤ 9223372036854775807) (fiS (((((F11 line).1).getD (Int.toNat 0) default) ++ w15_) ++ (((F11 line).1).getD (Int.toNat 1) default)) (F14 line) (condF h1 (condT h4 (condF h5 (condF h6 (condF h11 (condT h16 rfl))))))))))) (fun h16 => ifb ((((F11 line).1).getD (Int.toNat 0) default).toList == w9_.toList) (fun h17 => ifb ((((F11 line).1).getD (Int.toNat 0) default).toList == w9_.toList) (fun h18 => ai (by (exact kix0 _ (by assumption)) : 0 ≤ (0 : Int) ∧ (0 : Int) < (((F11 line).1).length : Int)) (ai (by (have hz := specwords_sz line; have hz0 := hz (Int.toNat 0); have hz1 := hz (Int.toNat 1); have hz2 := hz (Int.toNat 2); have hs : w15_.size = 1 := rfl; (try simp only [size_app] at *); omega) : (((((F11 line).1).getD (Int.toNat 0) default).size + w15_.size : Nat) : Int) ≤ 9223372036854775807) (ai (by (exact kix1 _ (by assumption)) : 0 ≤ (1 : Int) ∧ (1 : Int) < (((F11 line).1).length : Int)) (ai (by (have hz := specwords_sz line; have hz0 := hz (Int.toNat 0); have hz1 := hz (Int.toNat 1); have hz2 := hz (Int.toNat 2); have hs : w15_.size = 1 := rfl; (try simp only [size_app] at *); omega) : ((((((F11 line).1).getD (Int.toNat 0) default) ++ w15_).size + (((F11 line).1).getD (Int.toNat 1) default).size : Nat) : Int) ≤ 9223372036854775807) (ai (by (have hz := specwords_sz line; have hz0 := hz (Int.toNat 0); have hz1 := hz (Int.toNat 1); have hz2 := hz (Int.toNat 2); have hs : w15_.size = 1 := rfl; (try simp only [size_app] at *); omega) : (((((((F11 line).1).getD (Int.toNat 0) default) ++ w15_) ++ (((F11 line).1).getD (Int.toNat 1) default)).size + w15_.size : Nat) : Int) ≤ 9223372036854775807) (ai (by (exact kix_rule _ (by assumption) (by assumption)) : 0 ≤ (2 : Int) ∧ (2 : Int) < (((F11 line).1).length : Int)) (ai (by (have hz := specwords_sz line; have hz0 := hz (Int.toNat 0); have hz1 := hz (Int.toNat 1); have hz2 := hz (Int.toNat 2); have hs : w15_.size = 1 := rfl; (try simp only [size_app] at *); omega) : ((((((((F11 line).1).getD (Int.toNat 0) default) ++ w15_) ++ (((F11 line).1).getD (Int.toNat 1) default)) ++ w15_).size + (((F11 line).1).getD (Int.toNat 2) default).size : Nat) : Int) ≤ 9223372036854775807) (fiS (((((((F11 line).1).getD (Int.toNat 0) default) ++ w15_) ++ (((F11 line).1).getD (Int.toNat 1) default)) ++ w15_) ++ (((F11 line).1).getD (Int.toNat 2) default)) (F14 line) (condF h1 (condT h4 (condF h5 (condF h6 (condF h11 (condF h16 (condT h17 (condT h18 rfl)))))))))))))))) (fun h18 => fiS line (F14 line) (condF h1 (condT h4 (condF h5 (condF h6 (condF h11 (condF h16 (condT h17 (condF h18 rfl)))))))))) (fun h17 => ifb ((((F11 line).1).getD (Int.toNat 0) default).toList == w3_.toList) (fun h19 => ai (by (exact kix0 _ (by assumption)) : 0 ≤ (0 : Int) ∧ (0 : Int) < (((F11 line).1).length : Int)) (ai (by (have hz := specwords_sz line; have hz0 := hz (Int.toNat 0); have hz1 := hz (Int.toNat 1); have hz2 := hz (Int.toNat 2); have hs : w15_.size = 1 := rfl; (try simp only [size_app] at *); omega) : (((((F11 line).1).getD (Int.toNat 0) default).size + w15_.size : Nat) : Int) ≤ 9223372036854775807) (ai (by (exact kix1 _ (by assumption)) : 0 ≤ (1 : Int) ∧ (1 : Int) < (((F11 line).1).length : Int)) (ai (by (have hz := specwords_sz line; have hz0 := hz (Int.toNat 0); have hz1 := hz (Int.toNat 1); have hz2 := hz (Int.toNat 2); have hs : w15_.size = 1 := rfl; (try simp only [size_app] at *); omega) : ((((((F11 line).1).getD (Int.toNat 0) default) ++ w15_).size + (((F11 line).1).getD (Int.toNat 1) default).size : Nat) : Int) ≤ 9223372036854775807) (ai (by (have hz := specwords_sz line; have hz0 := hz (Int.toNat 0); have hz1 := hz (Int.toNat 1); have hz2 := hz (Int.toNat 2); have hs : w15_.size = 1 := rfl; (try simp only [size_app] at *); omega) : (((((((F11 line).1).getD (Int.toNat 0) default) ++ w15_) ++ (((F11 line).1).getD (Int.toNat 1) default)).size + w15_.size : Nat) : Int) ≤ 9223372036854775807) (ai (by (exact kix_door _ (by assumption) (by assumption)) : 0 ≤ (2 : Int) ∧ (2 : Int) < (((F11 line).1).length : Int)) (ai (by (have hz := specwords_sz line; have hz0 := hz (Int.toNat 0); have hz1 := hz (Int.toNat 1); have hz2 := hz (Int.toNat 2); have hs : w15_.size = 1 := rfl; (try simp only [size_app] at *); omega) : ((((((((F11 line).1).getD (Int.toNat 0) default) ++ w15_) ++ (((F11 line).1).getD (Int.toNat 1) default)) ++ w15_).size + (((F11 line).1).getD (Int.toNat 2) default).size : Nat) : Int) ≤ 9223372036854775807) (fiS (((((((F11 line).1).getD (Int.toNat 0) default) ++ w15_) ++ (((F11 line).1).getD (Int.toNat 1) default)) ++ w15_) ++ (((F11 line).1).getD (Int.toNat 2) default)) (F14 line) (condF h1 (condT h4 (condF h5 (condF h6 (condF h11 (condF h16 (condF h17 (condT h19 rfl)))))))))))))))) (fun h19 => fiS line (F14 line) (condF h1 (condT h4 (condF h5 (condF h6 (condF h11 (condF h16 (condF h17 (condF h19 rfl))))))))))))))) (fun h4 => ifb ((((F11 line).1).getD (Int.toNat 0) default).toList == w5_.toList) (fun h20 => ai (by (exact kix0 _ (by assumption)) : 0 ≤ (0 : Int) ∧ (0 : Int) < (((F11 line).1).length : Int)) (fiS (((F11 line).1).getD (Int.toNat 0) default) (F14 line) (condF h1 (condF h4 (condT h20 rfl))))) (fun h20 => ifb ((((F11 line).1).getD (Int.toNat 0) default).toList == w10_.toList) (fun h21 => ifb ((((F11 line).1).getD (Int.toNat 0) default).toList == w10_.toList) (fun h22 => ai (by (exact kix0 _ (by assumption)) : 0 ≤ (0 : Int) ∧ (0 : Int) < (((F11 line).1).length : Int)) (ai (by (have hz := specwords_sz line; have hz0 := hz (Int.toNat 0); have hz1 := hz (Int.toNat 1); have hz2 := hz (Int.toNat 2); have hs : w15_.size = 1 := rfl; (try simp only [size_app] at *); omega) : (((((F11 line).1).getD (Int.toNat 0) default).size + w15_.size : Nat) : Int) ≤ 9223372036854775807) (ai (by (exact kix1 _ (by assumption)) : 0 ≤ (1 : Int) ∧ (1 : Int) < (((F11 line).1).length : Int)) (ai (by (have hz := specwords_sz line; have hz0 := hz (Int.toNat 0); have hz1 := hz (Int.toNat 1); have hz2 := hz (Int.toNat 2); have hs : w15_.size = 1 := rfl; (try simp only [size_app] at *); omega) : ((((((F11 line).1).getD (Int.toNat 0) default) ++ w15_).size + (((F11 line).1).getD (Int.toNat 1) default).size : Nat) : Int) ≤ 9223372036854775807) (fiS (((((F11 line).1).getD (Int.toNat 0) default) ++ w15_) ++ (((F11 line).1).getD (Int.toNat 1) default)) (F14 line) (condF h1 (condF h4 (condF h20 (condT h21 (condT h22 rfl)))))))))) (fun h22 => ifb ((((F11 line).1).getD (Int.toNat 0) default).toList == w9_.toList) (fun h23 => ifb ((((F11 line).1).getD (Int.toNat 0) default).toList == w9_.toList) (fun h24 => ai (by (exact kix0 _ (by assumption)) : 0 ≤ (0 : Int) ∧ (0 : Int) < (((F11 line).1).length : Int)) (ai (by (have hz := specwords_sz line; have hz0 := hz (Int.toNat 0); have hz1 := hz (Int.toNat 1); have hz2 := hz (Int.toNat 2); have hs : w15_.size = 1 := rfl; (try simp only [size_app] at *); omega) : (((((F11 line).1).getD (Int.toNat 0) default).size + w15_.size : Nat) : Int) ≤ 9223372036854775807) (ai (by (exact kix1 _ (by assumption)) : 0 ≤ (1 : Int) ∧ (1 : Int) < (((F11 line).1).length : Int)) (ai (by (have hz := specwords_sz line; have hz0 := hz (Int.toNat 0); have hz1 := hz (Int.toNat 1); have hz2 := hz (Int.toNat 2); have hs : w15_.size = 1 := rfl; (try simp only [size_app] at *); omega) : ((((((F11 line).1).getD (Int.toNat 0) default) ++ w15_).size + (((F11 line).1).getD (Int.toNat 1) default).size : Nat) : Int) ≤ 9223372036854775807) (ai (by (have hz := specwords_sz line; have hz0 := hz (Int.toNat 0); have hz1 := hz (Int.toNat 1); have hz2 := hz (Int.toNat 2); have hs : w15_.size = 1 := rfl; (try simp only [size_app] at *); omega) : (((((((F11 line).1).getD (Int.toNat 0) default) ++ w15_) ++ (((F11 line).1).getD (Int.toNat 1) default)).size + w15_.size : Nat) : Int) ≤ 9223372036854775807) (ai (by (exact kix_rule _ (by assumption) (by assumption)) : 0 ≤ (2 : Int) ∧ (2 : Int) < (((F11 line).1).length : Int)) (ai (by (have hz := specwords_sz line; have hz0 := hz (Int.toNat 0); have hz1 := hz (Int.toNat 1); have hz2 := hz (Int.toNat 2); have hs : w15_.size = 1 := rfl; (try simp only [size_app] at *); omega) : ((((((((F11 line).1).getD (Int.toNat 0) default) ++ w15_) ++ (((F11 line).1).getD (Int.toNat 1) default)) ++ w15_).size + (((F11 line).1).getD (Int.toNat 2) default).size : Nat) : Int) ≤ 9223372036854775807) (fiS (((((((F11 line).1).getD (Int.toNat 0) default) ++ w15_) ++ (((F11 line).1).getD (Int.toNat 1) default)) ++ w15_) ++ (((F11 line).1).getD (Int.toNat 2) default)) (F14 line) (condF h1 (condF h4 (condF h20 (condT h21 (condF h22 (condT h23 (condT h24 rfl))))))))))))))) (fun h24 => fiS line (F14 line) (condF h1 (condF h4 (condF h20 (condT h21 (condF h22 (condT h23 (condF h24 rfl))))))))) (fun h23 => ifb ((((F11 line).1).getD (Int.toNat 0) default).toList == w3_.toList) (fun h25 => ai (by (exact kix0 _ (by assumption)) : 0 ≤ (0 : Int) ∧ (0 : Int) < (((F11 line).1).length : Int)) (ai (by (have hz := specwords_sz line; have hz0 := hz (Int.toNat 0); have hz1 := hz (Int.toNat 1); have hz2 := hz (Int.toNat 2); have hs : w15_.size = 1 := rfl; (try simp only [size_app] at *); omega) : (((((F11 line).1).getD (Int.toNat 0) default).size + w15_.size : Nat) : Int) ≤ 9223372036854775807) (ai (by (exact kix1 _ (by assumption)) : 0 ≤ (1 : Int) ∧ (1 : Int) < (((F11 line).1).length : Int)) (ai (by (have hz := specwords_sz line; have hz0 := hz (Int.toNat 0); have hz1 := hz (Int.toNat 1); have hz2 := hz (Int.toNat 2); have hs : w15_.size = 1 := rfl; (try simp only [size_app] at *); omega) : ((((((F11 line).1).getD (Int.toNat 0) default) ++ w15_).size + (((F11 line).1).getD (Int.toNat 1) default).size : Nat) : Int) ≤ 9223372036854775807) (ai (by (have hz := specwords_sz line; have hz0 := hz (Int.toNat 0); have hz1 := hz (Int.toNat 1); have hz2 := hz (Int.toNat 2); have hs : w15_.size = 1 := rfl; (try simp only [size_app] at *); omega) : (((((((F11 line).1).getD (Int.toNat 0) default) ++ w15_) ++ (((F11 line).1).getD (Int.toNat 1) default)).size + w15_.size : Nat) : Int) ≤ 9223372036854775807) (ai (by (exact kix_door _ (by assumption) (by assumption)) : 0 ≤ (2 : Int) ∧ (2 : Int) < (((F11 line).1).length : Int)) (ai (by (have hz := specwords_sz line; have hz0 := hz (Int.toNat 0); have hz1 := hz (Int.toNat 1); have hz2 := hz (Int.toNat 2); have hs : w15_.size = 1 := rfl; (try simp only [size_app] at *); omega) : ((((((((F11 line).1).getD (Int.toNat 0) default) ++ w15_) ++ (((F11 line).1).getD (Int.toNat 1) default)) ++ w15_).size + (((F11 line).1).getD (Int.toNat 2) default).size : Nat) : Int) ≤ 9223372036854775807) (fiS (((((((F11 line).1).getD (Int.toNat 0) default) ++ w15_) ++ (((F11 line).1).getD (Int.toNat 1) default)) ++ w15_) ++ (((F11 line).1).getD (Int.toNat 2) default)) (F14 line) (condF h1 (condF h4 (condF h20 (condT h21 (condF h22 (condF h23 (condT h25 rfl))))))))))))))) (fun h25 => fiS line (F14 line) (condF h1 (condF h4 (condF h20 (condT h21 (condF h22 (condF h23 (condF h25 rfl))))))))))) (fun h21 => ifb ((((F11 line).1).getD (Int.toNat 0) default).toList == w7_.toList) (fun h26 => ifb ((((F11 line).1).getD (Int.toNat 0) default).toList == w7_.toList) (fun h27 => ai (by (exact kix0 _ (by assumption)) : 0 ≤ (0 : Int) ∧ (0 : Int) < (((F11 line).1).length : Int)) (ai (by (have hz := specwords_sz line; have hz0 := hz (Int.toNat 0); have hz1 := hz (Int.toNat 1); have hz2 := hz (Int.toNat 2); have hs : w15_.size = 1 := rfl; (try simp only [size_app] at *); omega) : (((((F11 line).1).getD (Int.toNat 0) default).size + w15_.size : Nat) : Int) ≤ 9223372036854775807) (ai (by (exact kix1 _ (by assumption)) : 0 ≤ (1 : Int) ∧ (1 : Int) < (((F11 line).1).length : Int)) (ai (by (have hz := specwords_sz line; have hz0 := hz (Int.toNat 0); have hz1 := hz (Int.toNat 1); have hz2 := hz (Int.toNat 2); have hs : w15_.size = 1 := rfl; (try simp only [size_app] at *); omega) : ((((((F11 line).1).getD (Int.toNat 0) default) ++ w15_).size + (((F11 line).1).getD (Int.toNat 1) default).size : Nat) : Int) ≤ 9223372036854775807) (fiS (((((F11 line).1).getD (Int.toNat 0) default) ++ w15_) ++ (((F11 line).1).getD (Int.toNat 1) default)) (F14 line) (condF h1 (condF h4 (condF h20 (condF h21 (condT h26 (condT h27 rfl))))))))))) (fun h27 => ifb ((((F11 line).1).getD (Int.toNat 0) default).toList == w9_.toList) (fun h28 => ifb ((((F11 line).1).getD (Int.toNat 0) default).toList == w9_.toList) (fun h29 => ai (by (exact kix0 _ (by assumption)) : 0 ≤ (0 : Int) ∧ (0 : Int) < (((F11 line).1).length : Int)) (ai (by (have hz := specwords_sz line; have hz0 := hz (Int.toNat 0); have hz1 := hz (Int.toNat 1); have hz2 := hz (Int.toNat 2); have hs : w15_.size = 1 := rfl; (try simp only [size_app] at *); omega) : (((((F11 line).1).getD (Int.toNat 0) default).size + w15_.size : Nat) : Int) ≤ 9223372036854775807) (ai (by (exact kix1 _ (by assumption)) : 0 ≤ (1 : Int) ∧ (1 : Int) < (((F11 line).1).length : Int)) (ai (by (have hz := specwords_sz line; have hz0 := hz (Int.toNat 0); have hz1 := hz (Int.toNat 1); have hz2 := hz (Int.toNat 2); have hs : w15_.size = 1 := rfl; (try simp only [size_app] at *); omega) : ((((((F11 line).1).getD (Int.toNat 0) default) ++ w15_).size + (((F11 line).1).getD (Int.toNat 1) default).size : Nat) : Int) ≤ 9223372036854775807) (ai (by (have hz := specwords_sz line; have hz0 := hz (Int.toNat 0); have hz1 := hz (Int.toNat 1); have hz2 := hz (Int.toNat 2); have hs : w15_.size = 1 := rfl; (try simp only [size_app] at *); omega) : (((((((F11 line).1).getD (Int.toNat 0) default) ++ w15_) ++ (((F11 line).1).getD (Int.toNat 1) default)).size + w15_.size : Nat) : Int) ≤ 9223372036854775807) (ai (by (exact kix_rule _ (by assumption) (by assumption)) : 0 ≤ (2 : Int) ∧ (2 : Int) < (((F11 line).1).length : Int)) (ai (by (have hz := specwords_sz line; have hz0 := hz (Int.toNat 0); have hz1 := hz (Int.toNat 1); have hz2 := hz (Int.toNat 2); have hs : w15_.size = 1 := rfl; (try simp only [size_app] at *); omega) : ((((((((F11 line).1).getD (Int.toNat 0) default) ++ w15_) ++ (((F11 line).1).getD (Int.toNat 1) default)) ++ w15_).size + (((F11 line).1).getD (Int.toNat 2) default).size : Nat) : Int) ≤ 9223372036854775807) (fiS (((((((F11 line).1).getD (Int.toNat 0) default) ++ w15_) ++ (((F11 line).1).getD (Int.toNat 1) default)) ++ w15_) ++ (((F11 line).1).getD (Int.toNat 2) default)) (F14 line) (condF h1 (condF h4 (condF h20 (condF h21 (condT h26 (condF h27 (condT h28 (condT h29 rfl)))))))))))))))) (fun h29 => fiS line (F14 line) (condF h1 (condF h4 (condF h20 (condF h21 (condT h26 (condF h27 (condT h28 (condF h29 rfl)))))))))) (fun h28 => ifb ((((F11 line).1).getD (Int.toNat 0) default).toList == w3_.toList) (fun h30 => ai (by (exact kix0 _ (by assumption)) : 0 ≤ (0 : Int) ∧ (0 : Int) < (((F11 line).1).length : Int)) (ai (by (have hz := specwords_sz line; have hz0 := hz (Int.toNat 0); have hz1 := hz (Int.toNat 1); have hz2 := hz (Int.toNat 2); have hs : w15_.size = 1 := rfl; (try simp only [size_app] at *); omega) : (((((F11 line).1).getD (Int.toNat 0) default).size + w15_.size : Nat) : Int) ≤ 9223372036854775807) (ai (by (exact kix1 _ (by assumption)) : 0 ≤ (1 : Int) ∧ (1 : Int) < (((F11 line).1).length : Int)) (ai (by (have hz := specwords_sz line; have hz0 := hz (Int.toNat 0); have hz1 := hz (Int.toNat 1); have hz2 := hz (Int.toNat 2); have hs : w15_.size = 1 := rfl; (try simp only [size_app] at *); omega) : ((((((F11 line).1).getD (Int.toNat 0) default) ++ w15_).size + (((F11 line).1).getD (Int.toNat 1) default).size : Nat) : Int) ≤ 9223372036854775807) (ai (by (have hz := specwords_sz line; have hz0 := hz (Int.toNat 0); have hz1 := hz (Int.toNat 1); have hz2 := hz (Int.toNat 2); have hs : w15_.size = 1 := rfl; (try simp only [size_app] at *); omega) : (((((((F11 line).1).getD (Int.toNat 0) default) ++ w15_) ++ (((F11 line).1).getD (Int.toNat 1) default)).size + w15_.size : Nat) : Int) ≤ 9223372036854775807) (ai (by (exact kix_door _ (by assumption) (by assumption)) : 0 ≤ (2 : Int) ∧ (2 : Int) < (((F11 line).1).length : Int)) (ai (by (have hz := specwords_sz line; have hz0 := hz (Int.toNat 0); have hz1 := hz (Int.toNat 1); have hz2 := hz (Int.toNat 2); have hs : w15_.size = 1 := rfl; (try simp only [size_app] at *); omega) : ((((((((F11 line).1).getD (Int.toNat 0) default) ++ w15_) ++ (((F11 line).1).getD (Int.toNat 1) default)) ++ w15_).size + (((F11 line).1).getD (Int.toNat 2) default).size : Nat) : Int) ≤ 9223372036854775807) (fiS (((((((F11 line).1).getD (Int.toNat 0) default) ++ w15_) ++ (((F11 line).1).getD (Int.toNat 1) default)) ++ w15_) ++ (((F11 line).1).getD (Int.toNat 2) default)) (F14 line) (condF h1 (condF h4 (condF h20 (condF h21 (condT h26 (condF h27 (condF h28 (condT h30 rfl)))))))))))))))) (fun h30 => fiS line (F14 line) (condF h1 (condF h4 (condF h20 (condF h21 (condT h26 (condF h27 (condF h28 (condF h30 rfl)))))))))))) (fun h26 => ifb ((((F11 line).1).getD (Int.toNat 0) default).toList == w6_.toList) (fun h31 => ai (by (exact kix0 _ (by assumption)) : 0 ≤ (0 : Int) ∧ (0 : Int) < (((F11 line).1).length : Int)) (ai (by (have hz := specwords_sz line; have hz0 := hz (Int.toNat 0); have hz1 := hz (Int.toNat 1); have hz2 := hz (Int.toNat 2); have hs : w15_.size = 1 := rfl; (try simp only [size_app] at *); omega) : (((((F11 line).1).getD (Int.toNat 0) default).size + w15_.size : Nat) : Int) ≤ 9223372036854775807) (ai (by (exact kix1 _ (by assumption)) : 0 ≤ (1 : Int) ∧ (1 : Int) < (((F11 line).1).length : Int)) (ai (by (have hz := specwords_sz line; have hz0 := hz (Int.toNat 0); have hz1 := hz (Int.toNat 1); have hz2 := hz (Int.toNat 2); have hs : w15_.size = 1 := rfl; (try simp only [size_app] at *); omega) : ((((((F11 line).1).getD (Int.toNat 0) default) ++ w15_).size + (((F11 line).1).getD (Int.toNat 1) default).size : Nat) : Int) ≤ 9223372036854775807) (fiS (((((F11 line).1).getD (Int.toNat 0) default) ++ w15_) ++ (((F11 line).1).getD (Int.toNat 1) default)) (F14 line) (condF h1 (condF h4 (condF h20 (condF h21 (condF h26 (condT h31 rfl))))))))))) (fun h31 => ifb ((((F11 line).1).getD (Int.toNat 0) default).toList == w9_.toList) (fun h32 => ifb ((((F11 line).1).getD (Int.toNat 0) default).toList == w9_.toList) (fun h33 => ai (by (exact kix0 _ (by assumption)) : 0 ≤ (0 : Int) ∧ (0 : Int) < (((F11 line).1).length : Int)) (ai (by (have hz := specwords_sz line; have hz0 := hz (Int.toNat 0); have hz1 := hz (Int.toNat 1); have hz2 := hz (Int.toNat 2); have hs : w15_.size = 1 := rfl; (try simp only [size_app] at *); omega) : (((((F11 line).1).getD (Int.toNat 0) default).size + w15_.size : Nat) : Int) ≤ 9223372036854775807) (ai (by (exact kix1 _ (by assumption)) : 0 ≤ (1 : Int) ∧ (1 : Int) < (((F11 line).1).length : Int)) (ai (by (have hz := specwords_sz line; have hz0 := hz (Int.toNat 0); have hz1 := hz (Int.toNat 1); have hz2 := hz (Int.toNat 2); have hs : w15_.size = 1 := rfl; (try simp only [size_app] at *); omega) : ((((((F11 line).1).getD (Int.toNat 0) default) ++ w15_).size + (((F11 line).1).getD (Int.toNat 1) default).size : Nat) : Int) ≤ 9223372036854775807) (ai (by (have hz := specwords_sz line; have hz0 := hz (Int.toNat 0); have hz1 := hz (Int.toNat 1); have hz2 := hz (Int.toNat 2); have hs : w15_.size = 1 := rfl; (try simp only [size_app] at *); omega) : (((((((F11 line).1).getD (Int.toNat 0) default) ++ w15_) ++ (((F11 line).1).getD (Int.toNat 1) default)).size + w15_.size : Nat) : Int) ≤ 9223372036854775807) (ai (by (exact kix_rule _ (by assumption) (by assumption)) : 0 ≤ (2 : Int) ∧ (2 : Int) < (((F11 line).1).length : Int)) (ai (by (have hz := specwords_sz line; have hz0 := hz (Int.toNat 0); have hz1 := hz (Int.toNat 1); have hz2 := hz (Int.toNat 2); have hs : w15_.size = 1 := rfl; (try simp only [size_app] at *); omega) : ((((((((F11 line).1).getD (Int.toNat 0) default) ++ w15_) ++ (((F11 line).1).getD (Int.toNat 1) default)) ++ w15_).size + (((F11 line).1).getD (Int.toNat 2) default).size : Nat) : Int) ≤ 9223372036854775807) (fiS (((((((F11 line).1).getD (Int.toNat 0) default) ++ w15_) ++ (((F11 line).1).getD (Int.toNat 1) default)) ++ w15_) ++ (((F11 line).1).getD (Int.toNat 2) default)) (F14 line) (condF h1 (condF h4 (condF h20 (condF h21 (condF h26 (condF h31 (condT h32 (condT h33 rfl)))))))))))))))) (fun h33 => fiS line (F14 line) (condF h1 (condF h4 (condF h20 (condF h21 (condF h26 (condF h31 (condT h32 (condF h33 rfl)))))))))) (fun h32 => ifb ((((F11 line).1).getD (Int.toNat 0) default).toList == w3_.toList) (fun h34 => ai (by (exact kix0 _ (by assumption)) : 0 ≤ (0 : Int) ∧ (0 : Int) < (((F11 line).1).length : Int)) (ai (by (have hz := specwords_sz line; have hz0 := hz (Int.toNat 0); have hz1 := hz (Int.toNat 1); have hz2 := hz (Int.toNat 2); have hs : w15_.size = 1 := rfl; (try simp only [size_app] at *); omega) : (((((F11 line).1).getD (Int.toNat 0) default).size + w15_.size : Nat) : Int) ≤ 9223372036854775807) (ai (by (exact kix1 _ (by assumption)) : 0 ≤ (1 : Int) ∧ (1 : Int) < (((F11 line).1).length : Int)) (ai (by (have hz := specwords_sz line; have hz0 := hz (Int.toNat 0); have hz1 := hz (Int.toNat 1); have hz2 := hz (Int.toNat 2); have hs : w15_.size = 1 := rfl; (try simp only [size_app] at *); omega) : ((((((F11 line).1).getD (Int.toNat 0) default) ++ w15_).size + (((F11 line).1).getD (Int.toNat 1) default).size : Nat) : Int) ≤ 9223372036854775807) (ai (by (have hz := specwords_sz line; have hz0 := hz (Int.toNat 0); have hz1 := hz (Int.toNat 1); have hz2 := hz (Int.toNat 2); have hs : w15_.size = 1 := rfl; (try simp only [size_app] at *); omega) : (((((((F11 line).1).getD (Int.toNat 0) default) ++ w15_) ++ (((F11 line).1).getD (Int.toNat 1) default)).size + w15_.size : Nat) : Int) ≤ 9223372036854775807) (ai (by (exact kix_door _ (by assumption) (by assumption)) : 0 ≤ (2 : Int) ∧ (2 : Int) < (((F11 line).1).length : Int)) (ai (by (have hz := specwords_sz line; have hz0 := hz (Int.toNat 0); have hz1 := hz (Int.toNat 1); have hz2 := hz (Int.toNat 2); have hs : w15_.size = 1 := rfl; (try simp only [size_app] at *); omega) : ((((((((F11 line).1).getD (Int.toNat 0) default) ++ w15_) ++ (((F11 line).1).getD (Int.toNat 1) default)) ++ w15_).size + (((F11 line).1).getD (Int.toNat 2) default).size : Nat) : Int) ≤ 9223372036854775807) (fiS (((((((F11 line).1).getD (Int.toNat 0) default) ++ w15_) ++ (((F11 line).1).getD (Int.toNat 1) default)) ++ w15_) ++ (((F11 line).1).getD (Int.toNat 2) default)) (F14 line) (condF h1 (condF h4 (condF h20 (condF h21 (condF h26 (condF h31 (condF h32 (condT h34 rfl)))))))))))))))) (fun h34 => fiS line (F14 line) (condF h1 (condF h4 (condF h20 (condF h21 (condF h26 (condF h31 (condF h32 (condF h34 rfl)))))))))))))))))))) (by kernel_rfl)
theorem join1 (a sp : ByteArray) : joinS [a] sp = a := ba_ext (by show Lib.join _ _ = _; exact Lib.join_one _ _)
theorem joinS_data (ws : List ByteArray) (sp : ByteArray) : (joinS ws sp).data.toList = Lib.join (ws.map (·.data.toList)) sp.data.toList := rfl
theorem join2 (a b sp : ByteArray) : joinS [a, b] sp = (a ++ sp) ++ b := ba_ext (by
 rw [joinS_data, List.map_cons, Lib.join_cons]
 simp [Lib.joinTail, ByteArray.data_append, Array.toList_append, List.append_assoc])
theorem join3 (a b c sp : ByteArray) : joinS [a, b, c] sp = (((a ++ sp) ++ b) ++ sp) ++ c := ba_ext (by
 rw [joinS_data, List.map_cons, Lib.join_cons]
 simp [Lib.joinTail, ByteArray.data_append, Array.toList_append, List.append_assoc])
theorem take_one (w : List ByteArray) (h : 1 ≤ w.length) : w.take 1 = [w.getD 0 default] := by
 match w, h with
 | a :: _, _ => rfl
theorem take_two (w : List ByteArray) (h : 2 ≤ w.length) : w.take 2 = [w.getD 0 default, w.getD 1 default] := by
 match w, h with
 | a :: b :: _, _ => rfl
theorem take_three (w : List ByteArray) (h : 3 ≤ w.length) : w.take 3 = [w.getD 0 default, w.getD 1 default, w.getD 2 default] := by
 match w, h with
 | a :: b :: c :: _, _ => rfl
theorem key_eq (line : ByteArray) (h : F47 line = true) : F14 line = joinS ((F11 line).1.take (keyN (((F11 line).1.getD 0 default).data.toList)).toNat) (⟨#[32]⟩ : ByteArray) := by
 have hk := keptP line h
 have hj := hk.joins
 unfold F14
 have e0 : (F11 line).1.getD (Int.toNat 0) default = (F11 line).1.getD 0 default := rfl
 have e1 : (F11 line).1.getD (Int.toNat 1) default = (F11 line).1.getD 1 default := rfl
 have e2 : (F11 line).1.getD (Int.toNat 2) default = (F11 line).1.getD 2 default := rfl
 simp only [h, Bool.not_true, cond_false, e0, e1, e2, blit]
 have hf := hk.form
 generalize (F11 line).1 = w at hf hj
 rcases hf with hf | hf | hf | hf | hf | hf | hf | hf
 ·have h0 := hf.1
  have hn : keyN (w.getD 0 default).data.toList = 1 := by rw [h0]; decide
  have hl : 2 ≤ w.length := by unfold hostP at hf; omega
  rw [hn, show ((1 : Int).toNat) = 1 from rfl]
  simp only [h0, show (([104, 111, 115, 116] : List UInt8) == ([104, 111, 115, 116] : List UInt8)) = true from by decide ,show (([104, 111, 115, 116] : List UInt8) == ([117, 115, 101, 114] : List UInt8)) = false from by decide ,show (([104, 111, 115, 116] : List UInt8) == ([112, 111, 114, 116] : List UInt8)) = false from by decide ,show (([104, 111, 115, 116] : List UInt8) == ([114, 117, 108, 101] : List UInt8)) = false from by decide ,show (([104, 111, 115, 116] : List UInt8) == ([114, 111, 117, 116, 101] : List UInt8)) = false from by decide ,show (([104, 111, 115, 116] : List UInt8) == ([112, 101, 101, 114] : List UInt8)) = false from by decide ,show (([104, 111, 115, 116] : List UInt8) == ([110, 97, 116] : List UInt8)) = false from by decide ,show (([104, 111, 115, 116] : List UInt8) == ([100, 111, 111, 114] : List UInt8)) = false from by decide, cond_true, cond_false]
  rw [take_one w (by omega), join1]
 ·have h0 := hf.1
  have hn : keyN (w.getD 0 default).data.toList = 2 := by rw [h0]; decide
  have hl : 2 ≤ w.length := by unfold userP at hf; omega
  rw [hn, show ((2 : Int).toNat) = 2 from rfl]
  simp only [h0, show (([117, 115, 101, 114] : List UInt8) == ([104, 111, 115, 116] : List UInt8)) = false from by decide ,show (([117, 115, 101, 114] : List UInt8) == ([117, 115, 101, 114] : List UInt8)) = true from by decide ,show (([117, 115, 101, 114] : List UInt8) == ([112, 111, 114, 116] : List UInt8)) = false from by decide ,show (([117, 115, 101, 114] : List UInt8) == ([114, 117, 108, 101] : List UInt8)) = false from by decide ,show (([117, 115, 101, 114] : List UInt8) == ([114, 111, 117, 116, 101] : List UInt8)) = false from by decide ,show (([117, 115, 101, 114] : List UInt8) == ([112, 101, 101, 114] : List UInt8)) = false from by decide ,show (([117, 115, 101, 114] : List UInt8) == ([110, 97, 116] : List UInt8)) = false from by decide ,show (([117, 115, 101, 114] : List UInt8) == ([100, 111, 111, 114] : List UInt8)) = false from by decide, cond_true, cond_false]
  rw [take_two w (by omega), join2]
 ·have h0 := hf.1
  have hn : keyN (w.getD 0 default).data.toList = 2 := by rw [h0]; decide
  have hl : 2 ≤ w.length := by unfold portP at hf; omega
  rw [hn, show ((2 : Int).toNat) = 2 from rfl]
  simp only [h0, show (([112, 111, 114, 116] : List UInt8) == ([104, 111, 115, 116] : List UInt8)) = false from by decide ,show (([112, 111, 114, 116] : List UInt8) == ([117, 115, 101, 114] : List UInt8)) = false from by decide ,show (([112, 111, 114, 116] : List UInt8) == ([112, 111, 114, 116] : List UInt8)) = true from by decide ,show (([112, 111, 114, 116] : List UInt8) == ([114, 117, 108, 101] : List UInt8)) = false from by decide ,show (([112, 111, 114, 116] : List UInt8) == ([114, 111, 117, 116, 101] : List UInt8)) = false from by decide ,show (([112, 111, 114, 116] : List UInt8) == ([112, 101, 101, 114] : List UInt8)) = false from by decide ,show (([112, 111, 114, 116] : List UInt8) == ([110, 97, 116] : List UInt8)) = false from by decide ,show (([112, 111, 114, 116] : List UInt8) == ([100, 111, 111, 114] : List UInt8)) = false from by decide, cond_true, cond_false]
  rw [take_two w (by omega), join2]
 ·have h0 := hf.1
  have hn : keyN (w.getD 0 default).data.toList = 3 := by rw [h0]; decide
  have hl : 3 ≤ w.length := by unfold ruleP at hf; omega
  rw [hn, show ((3 : Int).toNat) = 3 from rfl]
  simp only [h0, show (([114, 117, 108, 101] : List UInt8) == ([104, 111, 115, 116] : List UInt8)) = false from by decide ,show (([114, 117, 108, 101] : List UInt8) == ([117, 115, 101, 114] : List UInt8)) = false from by decide ,show (([114, 117, 108, 101] : List UInt8) == ([112, 111, 114, 116] : List UInt8)) = false from by decide ,show (([114, 117, 108, 101] : List UInt8) == ([114, 117, 108, 101] : List UInt8)) = true from by decide ,show (([114, 117, 108, 101] : List UInt8) == ([114, 111, 117, 116, 101] : List UInt8)) = false from by decide ,show (([114, 117, 108, 101] : List UInt8) == ([112, 101, 101, 114] : List UInt8)) = false from by decide ,show (([114, 117, 108, 101] : List UInt8) == ([110, 97, 116] : List UInt8)) = false from by decide ,show (([114, 117, 108, 101] : List UInt8) == ([100, 111, 111, 114] : List UInt8)) = false from by decide, cond_true, cond_false]
  rw [take_three w (by omega), join3]
 ·have h0 := hf.1
  have hn : keyN (w.getD 0 default).data.toList = 3 := by rw [h0]; decide
  have hl : 3 ≤ w.length := by unfold routeP at hf; omega
  rw [hn, show ((3 : Int).toNat) = 3 from rfl]
  simp only [h0, show (([114, 111, 117, 116, 101] : List UInt8) == ([104, 111, 115, 116] : List UInt8)) = false from by decide ,show (([114, 111, 117, 116, 101] : List UInt8) == ([117, 115, 101, 114] : List UInt8)) = false from by decide ,show (([114, 111, 117, 116, 101] : List UInt8) == ([112, 111, 114, 116] : List UInt8)) = false from by decide ,show (([114, 111, 117, 116, 101] : List UInt8) == ([114, 117, 108, 101] : List UInt8)) = false from by decide ,show (([114, 111, 117, 116, 101] : List UInt8) == ([114, 111, 117, 116, 101] : List UInt8)) = true from by decide ,show (([114, 111, 117, 116, 101] : List UInt8) == ([112, 101, 101, 114] : List UInt8)) = false from by decide ,show (([114, 111, 117, 116, 101] : List UInt8) == ([110, 97, 116] : List UInt8)) = false from by decide ,show (([114, 111, 117, 116, 101] : List UInt8) == ([100, 111, 111, 114] : List UInt8)) = false from by decide, cond_true, cond_false]
  rw [List.take_of_length_le (by unfold routeP at hf; omega)]
  exact hj.symm
 ·have h0 := hf.1
  have hn : keyN (w.getD 0 default).data.toList = 2 := by rw [h0]; decide
  have hl : 2 ≤ w.length := by unfold peerP at hf; omega
  rw [hn, show ((2 : Int).toNat) = 2 from rfl]
  simp only [h0, show (([112, 101, 101, 114] : List UInt8) == ([104, 111, 115, 116] : List UInt8)) = false from by decide ,show (([112, 101, 101, 114] : List UInt8) == ([117, 115, 101, 114] : List UInt8)) = false from by decide ,show (([112, 101, 101, 114] : List UInt8) == ([112, 111, 114, 116] : List UInt8)) = false from by decide ,show (([112, 101, 101, 114] : List UInt8) == ([114, 117, 108, 101] : List UInt8)) = false from by decide ,show (([112, 101, 101, 114] : List UInt8) == ([114, 111, 117, 116, 101] : List UInt8)) = false from by decide ,show (([112, 101, 101, 114] : List UInt8) == ([112, 101, 101, 114] : List UInt8)) = true from by decide ,show (([112, 101, 101, 114] : List UInt8) == ([110, 97, 116] : List UInt8)) = false from by decide ,show (([112, 101, 101, 114] : List UInt8) == ([100, 111, 111, 114] : List UInt8)) = false from by decide, cond_true, cond_false]
  rw [take_two w (by omega), join2]
 ·have h0 := hf.1
  have hn : keyN (w.getD 0 default).data.toList = 1 := by rw [h0]; decide
  have hl : 2 ≤ w.length := by unfold natP at hf; omega
  rw [hn, show ((1 : Int).toNat) = 1 from rfl]
  simp only [h0, show (([110, 97, 116] : List UInt8) == ([104, 111, 115, 116] : List UInt8)) = false from by decide ,show (([110, 97, 116] : List UInt8) == ([117, 115, 101, 114] : List UInt8)) = false from by decide ,show (([110, 97, 116] : List UInt8) == ([112, 111, 114, 116] : List UInt8)) = false from by decide ,show (([110, 97, 116] : List UInt8) == ([114, 117, 108, 101] : List UInt8)) = false from by decide ,show (([110, 97, 116] : List UInt8) == ([114, 111, 117, 116, 101] : List UInt8)) = false from by decide ,show (([110, 97, 116] : List UInt8) == ([112, 101, 101, 114] : List UInt8)) = false from by decide ,show (([110, 97, 116] : List UInt8) == ([110, 97, 116] : List UInt8)) = true from by decide ,show (([110, 97, 116] : List UInt8) == ([100, 111, 111, 114] : List UInt8)) = false from by decide, cond_true, cond_false]
  rw [take_one w (by omega), join1]
 ·have h0 := hf.1
  have hn : keyN (w.getD 0 default).data.toList = 3 := by rw [h0]; decide
  have hl : 3 ≤ w.length := by unfold doorP at hf; omega
  rw [hn, show ((3 : Int).toNat) = 3 from rfl]
  simp only [h0, show (([100, 111, 111, 114] : List UInt8) == ([104, 111, 115, 116] : List UInt8)) = false from by decide ,show (([100, 111, 111, 114] : List UInt8) == ([117, 115, 101, 114] : List UInt8)) = false from by decide ,show (([100, 111, 111, 114] : List UInt8) == ([112, 111, 114, 116] : List UInt8)) = false from by decide ,show (([100, 111, 111, 114] : List UInt8) == ([114, 117, 108, 101] : List UInt8)) = false from by decide ,show (([100, 111, 111, 114] : List UInt8) == ([114, 111, 117, 116, 101] : List UInt8)) = false from by decide ,show (([100, 111, 111, 114] : List UInt8) == ([112, 101, 101, 114] : List UInt8)) = false from by decide ,show (([100, 111, 111, 114] : List UInt8) == ([110, 97, 116] : List UInt8)) = false from by decide ,show (([100, 111, 111, 114] : List UInt8) == ([100, 111, 111, 114] : List UInt8)) = true from by decide, cond_true, cond_false]
  rw [take_three w (by omega), join3]
theorem key_same (line : ByteArray) : F13 line = F14 line := by
 cases h : F47 line with
 | false =>
  unfold F13 F14
  rw [keptSo_eq, h]; rfl
 | true =>
  rw [key_eq line h]
  obtain ⟨k1, k2⟩ := kept_form line h
  unfold F13
  rw [keptSo_eq, h, k1, k2]; rfl
theorem mem_join (c : UInt8) : ∀ (ws : List (List UInt8)) (b : UInt8), b ∈ Lib.join ws [c] → b = c ∨ ∃ w ∈ ws, b ∈ w
 | [], b, h => by cases h
 | [x], b, h => by rw [Lib.join_one] at h; exact .inr ⟨x, List.mem_cons_self, h⟩
 | x :: y :: r, b, h => by
  rw [Lib.join_cons] at h
  rcases List.mem_append.1 h with h | h
  ·exact .inr ⟨x, List.mem_cons_self, h⟩
  ·have e : Lib.joinTail [c] (y :: r) = c :: Lib.join (y :: r) [c] := by rw [Lib.join_cons]; rfl
   rw [e] at h
   rcases List.mem_cons.1 h with h | h
   ·exact .inl h
   ·rcases mem_join c (y :: r) b h with h | ⟨w, hw, hb⟩
    ·exact .inl h
    ·exact .inr ⟨w, List.mem_cons_of_mem _ hw, hb⟩
theorem mem_splitL (c : UInt8) : ∀ (l w : List UInt8), w ∈ splitL c l → ∀ b ∈ w, b ∈ l
 | [], w, h, b, hb => by rw [splitL, List.mem_singleton] at h; rw [h] at hb; cases hb
 | x :: l, w, h, b, hb => by
  have ih := mem_splitL c l
  rw [splitL] at h
  by_cases hx : x = c
  ·rw [if_pos hx] at h
   rcases List.mem_cons.1 h with rfl | h
   ·cases hb
   ·exact List.mem_cons_of_mem _ (ih w h b hb)
  ·rw [if_neg hx] at h
   cases hs : splitL c l with
   | nil =>
    rw [hs, List.mem_singleton] at h
    rw [h] at hb
    rcases List.mem_cons.1 hb with rfl | hb
    ·exact List.mem_cons_self
    ·cases hb
   | cons p ps =>
    rw [hs] at h ih
    rcases List.mem_cons.1 h with rfl | h
    ·rcases List.mem_cons.1 hb with rfl | hb
     ·exact List.mem_cons_self
     ·exact List.mem_cons_of_mem _ (ih p List.mem_cons_self b hb)
    ·exact List.mem_cons_of_mem _ (ih w (List.mem_cons_of_mem _ h) b hb)
theorem key_none (l : ByteArray) (h : F47 l = false) : F14 l = (⟨#[]⟩ : ByteArray) := by
 unfold F14
 rw [h]; rfl
theorem key_empty (l : ByteArray) : ((F14 l).toList == (⟨#[]⟩ : ByteArray).toList) = !F47 l := by
 cases h : F47 l with
 | false => rw [key_none l h]; rw [beq_ba]; rfl
 | true =>
  rw [byteToList, byteToList, key_eq l h, Bool.not_true, beq_eq_false_iff_ne]
  have hk := keptP l h
  have hl := form_two_le _ hk.form
  have hn := form_key_le _ hk.form
  have hno := hk.no
  generalize (F11 l).1 = w at hl hn hno
  match w, hl with
  | a :: r, _ =>
   have e : ((keyN (((a :: r).getD 0 default).data.toList)).toNat) = (keyN (((a :: r).getD 0 default).data.toList)).toNat - 1 + 1 := by omega
   rw [e, List.take_succ_cons, joinS_data, List.map_cons, Lib.join_cons]
   intro h0
   exact (hno a List.mem_cons_self).2.1 (List.append_eq_nil_iff.1 h0).1
theorem specLine_200 (line : ByteArray) : (F9 line).1.size ≤ 200 := by
 unfold F9
 rw [specJoin_eq, ← words_same]
 cases (bif (!((F10 line).2)) then true else (!(F36 ((F10 line).1)))) with
 | true => exact Nat.zero_le _
 | false =>
  have h := join_sz (F10 line).1 (⟨#[32]⟩ : ByteArray) 24 (words_sz24 line)
  have hl := words_len line
  have h2 : (F10 line).1.length * (24 + (⟨#[32]⟩ : ByteArray).size) ≤ 8 * 25 := Nat.mul_le_mul_right 25 hl
  show (joinS (F10 line).1 (⟨#[32]⟩ : ByteArray)).size ≤ 200
  omega
theorem getD_sz {xs : List ByteArray} {n : Nat} (h : ∀ x ∈ xs, x.size ≤ n) (k : Nat) : (xs.getD k default).size ≤ n := by
 rw [List.getD_eq_getElem?_getD]
 cases hx : xs[k]? with
 | none => exact Nat.zero_le n
 | some x => exact h x (List.mem_of_getElem? hx)
theorem xor_in {a b : Int} (ha : 0 ≤ a) (ha2 : a < 4611686018427387904) (hb : 0 ≤ b) (hb2 : b < 4611686018427387904) : 0 ≤ bitI .xor .i64 a b := by
 obtain ⟨m, rfl⟩ := Int.eq_ofNat_of_zero_le ha
 obtain ⟨k, rfl⟩ := Int.eq_ofNat_of_zero_le hb
 have h1 : m < 2 ^ 62 := by omega
 have h2 : k < 2 ^ 62 := by omega
 have hx : m ^^^ k < 2 ^ 62 := Nat.xor_lt_two_pow h1 h2
 unfold bitI
 have e : (BitVec.ofInt IntKind.i64.bits (m : Int) ^^^ BitVec.ofInt IntKind.i64.bits (k : Int)).toNat = m ^^^ k := by
  rw [BitVec.toNat_xor, BitVec.toNat_ofInt, BitVec.toNat_ofInt]
  have hb : (2 ^ IntKind.i64.bits : Nat) = 18446744073709551616 := by decide
  have e1 : ((m : Int) % ((2 ^ IntKind.i64.bits : Nat) : Int)).toNat = m := by rw [hb]; omega
  have e2 : ((k : Int) % ((2 ^ IntKind.i64.bits : Nat) : Int)).toNat = k := by rw [hb]; omega
  rw [e1, e2]
 simp only [e]
 rw [wrap_of (by omega) (by omega)]
 omega
theorem tmod_ix {a b : Int} (h0 : 0 ≤ a) (h1 : 0 < b) : 0 ≤ a.tmod b ∧ a.tmod b < b := by
 rw [Int.tmod_eq_emod_of_nonneg h0]
 exact ⟨Int.emod_nonneg _ (by omega), Int.emod_lt_of_pos _ h1⟩
theorem tmod_in {a n : Int} (h0 : 0 ≤ a) : 0 ≤ a.tmod n ∧ (1 ≤ n → a.tmod n < n) := by
 refine ⟨?_, fun h => (tmod_ix h0 (by omega)).2⟩
 rw [Int.tmod_eq_emod_of_nonneg h0]
 by_cases h : n = 0
 ·subst h; simpa using h0
 ·exact Int.emod_nonneg _ h
theorem wrap73 {k : Int} (h0 : 0 ≤ k) (h1 : k ≤ 2000000000) : 0 ≤ IntKind.i64.wrap (IntKind.i64.wrap (k * 7) + 3) := by
 rw [wrap_of (n := k * 7) (by omega) (by omega), wrap_of (by omega) (by omega)]; omega
theorem words_bytes (s : ByteArray) (h : (F11 s).2 = true) : ∀ w ∈ (F11 s).1, (35 : UInt8) ∉ w.data.toList ∧ (32 : UInt8) ∉ w.data.toList ∧ w.data.toList ≠ [] ∧ w.data.toList.all okB = true ∧ w.data.toList.length ≤ 24 := by
 have h35 : (35 : UInt8) ∉ (cut3 s (⟨#[35]⟩ : ByteArray)).1.data.toList := by
  rcases cut_cases s 35 with ⟨h1, h2⟩ | ⟨a, b, h1, h2, h3⟩
  ·rw [h2]; exact h1
  ·rw [h3]; simpa using h2
 rw [spec_words] at h ⊢
 unfold wordsOf at h ⊢
 cases hc : ((cut3 s (⟨#[35]⟩ : ByteArray)).1.data.toList.all okB && fitW (wordsL (cut3 s (⟨#[35]⟩ : ByteArray)).1.data.toList)) with
 | false => rw [hc, cond_false] at h; cases h
 | true =>
  rw [cond_true]
  rw [Bool.and_eq_true] at hc
  intro w hw
  obtain ⟨y, hy, rfl⟩ := List.mem_map.1 hw
  have hfit := hc.2
  unfold fitW at hfit
  rw [Bool.and_eq_true, List.all_eq_true] at hfit
  have h24 := of_decide_eq_true (hfit.2 y hy)
  unfold wordsL at hy
  obtain ⟨hy1, hy2⟩ := List.mem_filter.1 hy
  refine ⟨fun hm => h35 (mem_splitL 32 _ y hy1 35 hm), splitL_no 32 _ y hy1, fun e => ?_, ?_, h24⟩
  ·have e : y = [] := e
   rw [e] at hy2
   cases hy2
  ·rw [List.all_eq_true]
   intro b hb
   exact List.all_eq_true.1 hc.1 b (mem_splitL 32 _ y hy1 b hb)
theorem words_len8 (s : ByteArray) : (F11 s).1.length ≤ 8 := specwords_len s
theorem splitL_cons32 (l : List UInt8) : splitL 32 (32 :: l) = [] :: splitL 32 l := splitL_app (c := 32) l (a := []) List.not_mem_nil
theorem splitL_end : ∀ l : List UInt8, splitL 32 (l ++ [32]) = splitL 32 l ++ [[]]
 | [] => by decide
 | b :: l => by
  have ih := splitL_end l
  rw [List.cons_append]
  by_cases hb : b = 32
  ·subst hb
   rw [splitL_cons32, splitL_cons32, ih]; rfl
  ·rw [splitL, if_neg hb, splitL, if_neg hb, ih]
   cases hs : splitL 32 l with
   | nil => exact absurd hs (by
     cases l with
     | nil => simp [splitL]
     | cons x r =>
      rw [splitL]
      by_cases hx : x = 32
      ·rw [if_pos hx]; simp
      ·rw [if_neg hx]; cases splitL 32 r <;> simp)
   | cons p ps => rfl
theorem filter_ne {ws : List (List UInt8)} (h : ∀ w ∈ ws, w ≠ []) : ws.filter (fun w => !w.isEmpty) = ws := List.filter_eq_self.2 fun w hw => by
 cases w with
 | nil => exact absurd rfl (h [] hw)
 | cons a r => rfl
theorem wordsL_join (w : List ByteArray) (h0 : w ≠ []) (h : ∀ x ∈ w, (32 : UInt8) ∉ x.data.toList ∧ x.data.toList ≠ []) : wordsL (joinS w (⟨#[32]⟩ : ByteArray)).data.toList = w.map (·.data.toList) := by
 unfold wordsL
 rw [joinS_data]
 have hs := split_join 32 (w.map (·.data.toList)) (by simpa using h0) (fun x hx => by
  obtain ⟨y, hy, rfl⟩ := List.mem_map.1 hx
  exact (h y hy).1)
 rw [show (⟨#[32]⟩ : ByteArray).data.toList = [32] from rfl, hs]
 exact filter_ne fun x hx => by
  obtain ⟨y, hy, rfl⟩ := List.mem_map.1 hx
  exact (h y hy).2
theorem words_again (w : List ByteArray) (t : ByteArray) (l : List UInt8) (h0 : w ≠ []) (hlen : w.length ≤ 8) (h : ∀ x ∈ w, (35 : UInt8) ∉ x.data.toList ∧ (32 : UInt8) ∉ x.data.toList ∧ x.data.toList ≠ [] ∧ x.data.toList.all okB = true ∧ x.data.toList.length ≤ 24)
  (hc : (cut3 t (⟨#[35]⟩ : ByteArray)).1.data.toList = l) (hl : l.all okB = true) (hw : wordsL l = w.map (·.data.toList)) : F11 t = (w, true) := by
 rw [spec_words, hc]
 unfold wordsOf fitW
 rw [hw, hl, Bool.true_and, List.length_map, decide_eq_true hlen, Bool.true_and]
 have ha : ((w.map (·.data.toList)).all fun w => decide (w.length ≤ 24)) = true := by
  rw [List.all_map, List.all_eq_true]
  intro x hx
  exact decide_eq_true (h x hx).2.2.2.2
 rw [ha, cond_true, List.map_map]
 exact congrArg (fun z => (z, true)) ((List.map_congr_left fun x _ => mkB_self x).trans (List.map_id _))
theorem joinW_ok (w : List ByteArray) (h : ∀ x ∈ w, (35 : UInt8) ∉ x.data.toList ∧ x.data.toList.all okB = true) : (35 : UInt8) ∉ (joinS w (⟨#[32]⟩ : ByteArray)).data.toList ∧ (joinS w (⟨#[32]⟩ : ByteArray)).data.toList.all okB = true := by
 rw [joinS_data]
 have key : ∀ b ∈ Lib.join (w.map (·.data.toList)) [32], b ≠ 35 ∧ okB b = true := fun b hb => by
  rcases mem_join 32 _ _ hb with rfl | ⟨y, hy, hby⟩
  ·exact ⟨by decide, by decide⟩
  ·obtain ⟨x, hx, rfl⟩ := List.mem_map.1 hy
   refine ⟨fun e => ?_, List.all_eq_true.1 (h x hx).2 b hby⟩
   subst e
   exact (h x hx).1 hby
 exact ⟨fun hm => (key 35 hm).1 rfl, List.all_eq_true.2 fun b hb => (key b hb).2⟩
theorem cut_own {l : ByteArray} (h : (35 : UInt8) ∉ l.data.toList) : (cut3 l (⟨#[35]⟩ : ByteArray)).1 = l := by
 rcases cut_cases l 35 with ⟨h1, h2⟩ | ⟨a, b, h1, h2, h3⟩
 ·rw [h2]
 ·exact absurd (by rw [h1]; simp) h
theorem line_again (s : ByteArray) (h : (F9 s).2 = true) :
  F11 (F9 s).1 = ((F11 s).1, true) ∧ F36 (F11 s).1 = true ∧ (F9 s).1 = joinS (F11 s).1 (⟨#[32]⟩ : ByteArray) ∧
  ∀ t : ByteArray, F11 (((((⟨#[32, 32]⟩ : ByteArray) ++ (F9 s).1) ++ (⟨#[32, 35, 32]⟩ : ByteArray))) ++ t) = ((F11 s).1, true) := by
 rw [specLine_eq] at h ⊢
 cases hc : ((F11 s).2 && F36 (F11 s).1) with
 | false => rw [hc, cond_false] at h; cases h
 | true =>
  rw [cond_true]
  rw [Bool.and_eq_true] at hc
  have hb := words_bytes s hc.1
  have hF := form_cases _ hc.2
  obtain ⟨n1, n2⟩ := form_two_le _ hF
  have h8 := words_len8 s
  generalize (F11 s).1 = w at hb n1 h8 hc ⊢
  have h0 : w ≠ [] := fun e => by rw [e] at n1; exact absurd n1 (by decide)
  obtain ⟨j1, j2⟩ := joinW_ok w fun x hx => ⟨(hb x hx).1, (hb x hx).2.2.2.1⟩
  have hwl := wordsL_join w h0 fun x hx => ⟨(hb x hx).2.1, (hb x hx).2.2.1⟩
  refine ⟨words_again w _ _ h0 h8 hb (by rw [cut_own j1]) j2 hwl, hc.2, rfl, fun t => ?_⟩
  show F11 (((((⟨#[32, 32]⟩ : ByteArray) ++ joinS w (⟨#[32]⟩ : ByteArray)) ++ (⟨#[32, 35, 32]⟩ : ByteArray))) ++ t) = (w, true)
  generalize joinS w (⟨#[32]⟩ : ByteArray) = l at j1 j2 hwl
  have hd : ((((⟨#[32, 32]⟩ : ByteArray) ++ l) ++ (⟨#[32, 35, 32]⟩ : ByteArray)) ++ t).data.toList = (32 :: 32 :: (l.data.toList ++ [32])) ++ 35 :: (32 :: t.data.toList) := by simp
  have hno : (35 : UInt8) ∉ (32 :: 32 :: (l.data.toList ++ [32])) := by
   intro hm
   rcases List.mem_cons.1 hm with e | hm
   ·exact absurd e (by decide)
   ·rcases List.mem_cons.1 hm with e | hm
    ·exact absurd e (by decide)
    ·rcases List.mem_append.1 hm with hm | hm
     ·exact j1 hm
     ·exact absurd (List.mem_singleton.1 hm) (by decide)
  have hcut : (cut3 ((((⟨#[32, 32]⟩ : ByteArray) ++ l) ++ (⟨#[32, 35, 32]⟩ : ByteArray)) ++ t) (⟨#[35]⟩ : ByteArray)).1.data.toList = 32 :: 32 :: (l.data.toList ++ [32]) := by
   rcases cut_cases ((((⟨#[32, 32]⟩ : ByteArray) ++ l) ++ (⟨#[32, 35, 32]⟩ : ByteArray)) ++ t) 35 with ⟨h1, h2⟩ | ⟨a, b, h1, h2, h3⟩
   ·exact absurd (by rw [hd]; simp) h1
   ·rw [h3]
    rw [hd] at h1
    have e1 := splitL_app (c := 35) (32 :: t.data.toList) hno
    have e2 := splitL_app (c := 35) b h2
    rw [h1, e2] at e1
    exact (List.cons.inj e1).1
  refine words_again w _ _ h0 h8 hb hcut ?_ ?_
  ·rw [List.all_cons, List.all_cons, List.all_append, j2]; decide
  ·unfold wordsL at hwl ⊢
   rw [splitL_cons32, splitL_cons32, splitL_end]
   rw [List.filter_cons_of_neg (by decide), List.filter_cons_of_neg (by decide), List.filter_append, hwl]
   exact List.append_nil _
theorem line_kept (s : ByteArray) (h : (F9 s).2 = true) : F47 (F9 s).1 = true := by
 obtain ⟨h1, h2, h3, _⟩ := line_again s h
 rw [kept_iff, specLine_eq, h1]
 simp only [h2, Bool.and_self, cond_true]
 exact ⟨trivial, h3.symm⟩
theorem line_told (s t : ByteArray) (h : (F9 s).2 = true) : F9 (((((⟨#[32, 32]⟩ : ByteArray) ++ (F9 s).1) ++ (⟨#[32, 35, 32]⟩ : ByteArray))) ++ t) = ((F9 s).1, true) := by
 obtain ⟨h1, h2, h3, h4⟩ := line_again s h
 rw [specLine_eq _, h4 t]
 simp only [h2, Bool.and_self, cond_true]
 rw [h3]
theorem key_has (s : ByteArray) (h : (F9 s).2 = true) : ((F14 s).toList == (⟨#[]⟩ : ByteArray).toList) = !decide (s = (F9 s).1) := by
 rw [key_empty]
 congr 1
 rw [Bool.eq_iff_iff, kept_iff, decide_eq_true_eq]
 exact ⟨fun e => e.2.symm, fun e => ⟨h, e.symm⟩⟩

structure l51Rd where
 b : List Int
 p : Int
 deriving DecidableEq, Inhabited
def F33 (Qa : SV) (code : List Int) : l51Rd × SV :=
 bif (decide ((code.length : Int) > 2000)) then ((⟨(code.take (Int.toNat 2000)), 0⟩ : l51Rd), (cutSV 1 (Int.toNat 0) (code.take (Int.toNat 2000)).length Qa)) else ((⟨code, 0⟩ : l51Rd), Qa)
def S33 (Qa : SV) (code : List Int) : Spec := ⟨[.vl (sv Qa) (.l 1 eByte code)], .pt 86 [.v (sv ((F33 Qa code).2)), .v (vI ((F33 Qa code).1).p)], True⟩
theorem ok33 (Qa : SV) (code : List Int) : (S33 Qa code).ok Tryz.prog 33 :=
 fnG_ok mixed (fn := Tryz.f33) (ct := .seqk [(0, 0)] .no (.seq (.seq .no (.cond (.reg [(1, .sv)]) .no)) (.seq .no .no))) Tryz.func33 (fun (_ : True) => kn code fun _ => ifd ((code.length : Int) > 2000) (fun h1 _ => ai (by first | omega | (simp only [lens, ib] at * <;> omega) : 0 ≤ (0 : Int) ∧ (0 : Int) ≤ (2000 : Int) ∧ (2000 : Int) ≤ (code.length : Int)) ((fun hF : ((⟨(code.take (Int.toNat 2000)), 0⟩ : l51Rd), (cutSV 1 (Int.toNat 0) (code.take (Int.toNat 2000)).length Qa)) = (F33 Qa code) => ai (ai (Imp.of_eq (congrArg (fun r : l51Rd × SV => Dat.v (sv r.2)) hF)) (ai (Imp.of_eq (congrArg (fun r : l51Rd × SV => Dat.v (vI r.1.p)) hF)) trivial)) trivial) (condT h1 rfl))) (fun h1 _ => (fun hF : ((⟨code, 0⟩ : l51Rd), Qa) = (F33 Qa code) => ai (ai (Imp.of_eq (congrArg (fun r : l51Rd × SV => Dat.v (sv r.2)) hF)) (ai (Imp.of_eq (congrArg (fun r : l51Rd × SV => Dat.v (vI r.1.p)) hF)) trivial)) trivial) (condF h1 rfl))) (by kernel_rfl)
def F48 (r1 : l51Rd) (n : Int) : Int × Int :=
 bif (bif decide (n < 1) then true else ((r1.b.length : Int) == 0)) then (0, (r1.p + 1)) else (bif (decide (((r1.p + 1) - 1) < (r1.b.length : Int))) then (((IntKind.i64.wrap ((r1.b.getD (Int.toNat ((r1.p + 1) - 1)) default) % 256)).tmod n), (r1.p + 1)) else (((bitI .xor .i64 (IntKind.i64.wrap ((IntKind.i64.wrap ((IntKind.i64.wrap ((IntKind.i64.wrap ((IntKind.i64.wrap ((r1.b.getD (Int.toNat (((r1.p + 1) - 1).tmod (r1.b.length : Int))) default) % 256)) * 131)) + (IntKind.i64.wrap ((IntKind.i64.wrap ((r1.b.getD (Int.toNat ((IntKind.i64.wrap ((IntKind.i64.wrap (((r1.p + 1) - 1) * 7)) + 3)).tmod (r1.b.length : Int))) default) % 256)) * 1117)))) + (IntKind.i64.wrap (((r1.p + 1) - 1) * 29)))) + (IntKind.i64.wrap ((IntKind.i64.wrap (((r1.p + 1) - 1).tdiv (r1.b.length : Int))) * 53)))) (IntKind.i64.wrap ((IntKind.i64.wrap ((IntKind.i64.wrap ((IntKind.i64.wrap ((IntKind.i64.wrap ((IntKind.i64.wrap ((r1.b.getD (Int.toNat (((r1.p + 1) - 1).tmod (r1.b.length : Int))) default) % 256)) * 131)) + (IntKind.i64.wrap ((IntKind.i64.wrap ((r1.b.getD (Int.toNat ((IntKind.i64.wrap ((IntKind.i64.wrap (((r1.p + 1) - 1) * 7)) + 3)).tmod (r1.b.length : Int))) default) % 256)) * 1117)))) + (IntKind.i64.wrap (((r1.p + 1) - 1) * 29)))) + (IntKind.i64.wrap ((IntKind.i64.wrap (((r1.p + 1) - 1).tdiv (r1.b.length : Int))) * 53)))).tdiv 64))).tmod n), (r1.p + 1)))
def S48 (r1X : SV) (gr1 : Nat) (r1 : l51Rd) (n : Int) : Spec := ⟨[.ptg gr1 86 (sv r1X) (.l 1 eByte r1.b) [.v (vI r1.p)] [.v (vI ((F48 r1 n).2))], .r (.c (.v (vI n)))], .v (vI ((F48 r1 n).1)), 0 ≤ r1.p ∧ r1.p ≤ 1000000000 ∧ r1.b.length ≤ 2000⟩
theorem ok48 (r1X : SV) (gr1 : Nat) (r1 : l51Rd) (n : Int) : (S48 r1X gr1 r1 n).ok Tryz.prog 48 :=
 fnG_ok mixed (fn := Tryz.f48) (ct := .seqk [(0, 0)] .no (.seq (.reg [(5, .bnd)]) (.seq (.seq .no (.cond (.seq .no .no) .no)) (.seq (.reg [(4, .bnd)]) (.seq (.seq .no (.cond (.seq .no .no) .no)) (.seq .no (.seq .no (.seq .no .no)))))))) Tryz.func48 (fun (hp : 0 ≤ r1.p ∧ r1.p ≤ 1000000000 ∧ r1.b.length ≤ 2000) => have hpre0 := hp.1; have hpre1 := hp.2.1; have hpre2 := hp.2.2; kn r1.b fun _ => ai (iok (r1.p + 1) (by omega)) (ifb (bif decide (n < 1) then true else ((r1.b.length : Int) == 0)) (fun h1 => (fun hF : (0, (r1.p + 1)) = (F48 r1 n) => ai (congrArg (fun r : Int × Int => (.int .i64 r.1 : Value)) hF) (ai (ai (Imp.refl (Dat.v (sv r1X))) (ai (Imp.of_eq (congrArg (fun r : Int × Int => Dat.v (vI r.2)) hF)) trivial)) trivial)) (condT h1 rfl)) (fun h1 => have _ := of_decide_eq_false (orF1 h1); have _ := beqF (orF2 h1); ai (iok ((r1.p + 1) - 1) (by omega)) (ifd (((r1.p + 1) - 1) < (r1.b.length : Int)) (fun h2 _ => ai (by first | omega | exact tmod_ix (by omega) (by omega) | exact tmod_ix (wrap73 (by omega) (by omega)) (by omega) : 0 ≤ ((r1.p + 1) - 1) ∧ ((r1.p + 1) - 1) < (r1.b.length : Int)) (ai (by omega : ¬ n = 0) ((fun hF : (((IntKind.i64.wrap ((r1.b.getD (Int.toNat ((r1.p + 1) - 1)) default) % 256)).tmod n), (r1.p + 1)) = (F48 r1 n) => ai (congrArg (fun r : Int × Int => (.int .i64 r.1 : Value)) hF) (ai (ai (Imp.refl (Dat.v (sv r1X))) (ai (Imp.of_eq (congrArg (fun r : Int × Int => Dat.v (vI r.2)) hF)) trivial)) trivial)) (condF h1 (condT h2 rfl))))) (fun h2 _ => ai (by omega : ¬ (r1.b.length : Int) = 0) (ai (by first | omega | exact tmod_ix (by omega) (by omega) | exact tmod_ix (wrap73 (by omega) (by omega)) (by omega) : 0 ≤ (((r1.p + 1) - 1).tmod (r1.b.length : Int)) ∧ (((r1.p + 1) - 1).tmod (r1.b.length : Int)) < (r1.b.length : Int)) (ai (by omega : ¬ (r1.b.length : Int) = 0) (ai (by first | omega | exact tmod_ix (by omega) (by omega) | exact tmod_ix (wrap73 (by omega) (by omega)) (by omega) : 0 ≤ ((IntKind.i64.wrap ((IntKind.i64.wrap (((r1.p + 1) - 1) * 7)) + 3)).tmod (r1.b.length : Int)) ∧ ((IntKind.i64.wrap ((IntKind.i64.wrap (((r1.p + 1) - 1) * 7)) + 3)).tmod (r1.b.length : Int)) < (r1.b.length : Int)) (ai (by omega : ¬ (r1.b.length : Int) = 0) (ai (by omega : ¬ (64 : Int) = 0) (ai (by omega : ¬ n = 0) ((fun hF : (((bitI .xor .i64 (IntKind.i64.wrap ((IntKind.i64.wrap ((IntKind.i64.wrap ((IntKind.i64.wrap ((IntKind.i64.wrap ((r1.b.getD (Int.toNat (((r1.p + 1) - 1).tmod (r1.b.length : Int))) default) % 256)) * 131)) + (IntKind.i64.wrap ((IntKind.i64.wrap ((r1.b.getD (Int.toNat ((IntKind.i64.wrap ((IntKind.i64.wrap (((r1.p + 1) - 1) * 7)) + 3)).tmod (r1.b.length : Int))) default) % 256)) * 1117)))) + (IntKind.i64.wrap (((r1.p + 1) - 1) * 29)))) + (IntKind.i64.wrap ((IntKind.i64.wrap (((r1.p + 1) - 1).tdiv (r1.b.length : Int))) * 53)))) (IntKind.i64.wrap ((IntKind.i64.wrap ((IntKind.i64.wrap ((IntKind.i64.wrap ((IntKind.i64.wrap ((IntKind.i64.wrap ((r1.b.getD (Int.toNat (((r1.p + 1) - 1).tmod (r1.b.length : Int))) default) % 256)) * 131)) + (IntKind.i64.wrap ((IntKind.i64.wrap ((r1.b.getD (Int.toNat ((IntKind.i64.wrap ((IntKind.i64.wrap (((r1.p + 1) - 1) * 7)) + 3)).tmod (r1.b.length : Int))) default) % 256)) * 1117)))) + (IntKind.i64.wrap (((r1.p + 1) - 1) * 29)))) + (IntKind.i64.wrap ((IntKind.i64.wrap (((r1.p + 1) - 1).tdiv (r1.b.length : Int))) * 53)))).tdiv 64))).tmod n), (r1.p + 1)) = (F48 r1 n) => ai (congrArg (fun r : Int × Int => (.int .i64 r.1 : Value)) hF) (ai (ai (Imp.refl (Dat.v (sv r1X))) (ai (Imp.of_eq (congrArg (fun r : Int × Int => Dat.v (vI r.2)) hF)) trivial)) trivial)) (condF h1 (condF h2 rfl)))))))))))))) (by kernel_rfl)
theorem pick_x {b1 b2 k q : Int} (h1 : 0 ≤ b1 ∧ b1 < 256) (h2 : 0 ≤ b2 ∧ b2 < 256) (hk : 0 ≤ k ∧ k ≤ 2000000000) (hq : 0 ≤ q ∧ q ≤ 2000000000) :
  IntKind.i64.wrap (IntKind.i64.wrap (IntKind.i64.wrap (IntKind.i64.wrap (IntKind.i64.wrap b1 * 131) + IntKind.i64.wrap (IntKind.i64.wrap b2 * 1117)) + IntKind.i64.wrap (k * 29)) + IntKind.i64.wrap (IntKind.i64.wrap q * 53)) = b1 * 131 + b2 * 1117 + k * 29 + q * 53 := by
 rw [wrap_of (n := b1) (by omega) (by omega), wrap_of (n := b2) (by omega) (by omega), wrap_of (n := q) (by omega) (by omega), wrap_of (n := b1 * 131) (by omega) (by omega), wrap_of (n := b2 * 1117) (by omega) (by omega), wrap_of (n := k * 29) (by omega) (by omega), wrap_of (n := q * 53) (by omega) (by omega),
  wrap_of (n := b1 * 131 + b2 * 1117) (by omega) (by omega), wrap_of (n := b1 * 131 + b2 * 1117 + k * 29) (by omega) (by omega), wrap_of (by omega) (by omega)]
theorem pick_y {a n : Int} (h0 : 0 ≤ a) (h1 : a < 4611686018427387904) : 0 ≤ (bitI .xor .i64 a (IntKind.i64.wrap (a.tdiv 64))).tmod n ∧ (1 ≤ n → (bitI .xor .i64 a (IntKind.i64.wrap (a.tdiv 64))).tmod n < n) := by
 have e : a.tdiv 64 = a / 64 := Int.tdiv_eq_ediv_of_nonneg h0
 rw [e, wrap_of (by omega) (by omega)]
 exact tmod_in (xor_in h0 h1 (by omega) (by omega))
theorem tdiv_in {k n : Int} (h0 : 0 ≤ k) (h1 : 0 ≤ n) : 0 ≤ k.tdiv n ∧ k.tdiv n ≤ k := by
 rw [Int.tdiv_eq_ediv_of_nonneg h0]
 exact ⟨Int.ediv_nonneg h0 h1, Int.ediv_le_self _ h0⟩
theorem pick_p (r1 : l51Rd) (n : Int) : (F48 r1 n).2 = r1.p + 1 := by
 unfold F48
 cases (bif decide (n < 1) then true else ((r1.b.length : Int) == 0))
 ·simp only [cond_false]
  cases decide (((r1.p + 1) - 1) < (r1.b.length : Int)) <;> rfl
 ·rfl
theorem pick_in (r1 : l51Rd) (n : Int) (h0 : 0 ≤ r1.p) (h1 : r1.p ≤ 1000000000) : 0 ≤ (F48 r1 n).1 ∧ (1 ≤ n → (F48 r1 n).1 < n) ∧ (F48 r1 n).2 = r1.p + 1 := by
 unfold F48
 cases h2 : (bif decide (n < 1) then true else ((r1.b.length : Int) == 0)) with
 | true => simp only [cond_true]; exact ⟨by omega, fun h => by omega, trivial⟩
 | false =>
  simp only [cond_false]
  cases h3 : decide (((r1.p + 1) - 1) < (r1.b.length : Int)) with
  | true =>
   simp only [cond_true]
   have h4 : 0 ≤ IntKind.i64.wrap (r1.b.getD (Int.toNat ((r1.p + 1) - 1)) default % 256) := by rw [wrap_of (by omega) (by omega)]; omega
   have := tmod_in (n := n) h4
   exact ⟨this.1, this.2, trivial⟩
  | false =>
   simp only [cond_false]
   have hq := tdiv_in (k := (r1.p + 1) - 1) (n := (r1.b.length : Int)) (by omega) (by omega)
   rw [pick_x (by omega) (by omega) (by omega) (by omega)]
   have := pick_y (n := n) (a := r1.b.getD (Int.toNat (((r1.p + 1) - 1).tmod (r1.b.length : Int))) default % 256 * 131 + r1.b.getD (Int.toNat ((IntKind.i64.wrap ((IntKind.i64.wrap (((r1.p + 1) - 1) * 7)) + 3)).tmod (r1.b.length : Int))) default % 256 * 1117 + (r1.p + 1 - 1) * 29 + (r1.p + 1 - 1).tdiv (r1.b.length : Int) * 53) (by omega) (by omega)
   exact ⟨this.1, this.2, trivial⟩
theorem open_b (Qa : SV) (code : List Int) : (F33 Qa code).1.b.length ≤ 2000 ∧ (F33 Qa code).1.p = 0 := by
 unfold F33
 by_cases h : (code.length : Int) > 2000
 ·rw [decide_eq_true h, cond_true]; exact ⟨by simp only [List.length_take]; omega, rfl⟩
 ·rw [decide_eq_false h, cond_false]; exact ⟨by simp only; omega, rfl⟩
theorem gd33 (Qa : SV) (code : List Int) : GD (sv Qa) (.l 1 eByte code) (sv (F33 Qa code).2) (.l 1 eByte (F33 Qa code).1.b) := by
 unfold F33
 intro S w h
 by_cases hl : (code.length : Int) > 2000
 ·rw [decide_eq_true hl, cond_true]
  obtain ⟨a, c, e1, e2, e3, e4⟩ := h
  simp only [sv, Value.slice.injEq] at e1
  obtain ⟨rfl, -, rfl⟩ := e1
  show RdV S w (.l 1 eByte (code.take 2000)) (.slice (if Qa.c = 0 then Qa.a else Qa.a.map (·.add (0 * 1))) (code.take 2000).length (Qa.c - 0))
  have hz : (if Qa.c = 0 then Qa.a else Qa.a.map (·.add (0 * 1))) = Qa.a := by
   by_cases hc : Qa.c = 0
   ·rw [if_pos hc]
   ·rw [if_neg hc]
    cases ha : Qa.a with
    | none => rfl
    | some a =>
     obtain ⟨x, hx⟩ : ∃ x, code[0]? = some x := ⟨_, List.getElem?_eq_getElem (by omega)⟩
     obtain ⟨f1, _⟩ := e4 0 x hx
     rw [ha] at f1
     rw [f1]
     simp [Addr.add_lit, ab, ao]
  rw [hz, Nat.sub_zero]
  refine ⟨_, _, rfl, by simp only [List.length_take]; omega, by simp only [List.length_take]; omega, fun i y hy => ?_⟩
  rw [List.getElem?_take] at hy
  split at hy
  ·exact e4 i y hy
  ·cases hy
 ·rw [decide_eq_false hl, cond_false]; exact h
def F67 (r1 : l51Rd) (list : List ByteArray) : ByteArray × Int :=
 ((list.getD (Int.toNat ((F48 (⟨r1.b, r1.p⟩ : l51Rd) (list.length : Int)).1)) default), (F48 (⟨r1.b, r1.p⟩ : l51Rd) (list.length : Int)).2)
def S67 (r1X : SV) (gr1 : Nat) (r1 : l51Rd) (list : List ByteArray) : Spec := ⟨[.ptg gr1 86 (sv r1X) (.l 1 eByte r1.b) [.v (vI r1.p)] [.v (vI ((F67 r1 list).2))], .r (.c (.l 1 eStr list))], .v (.string ((F67 r1 list).1)), 0 ≤ r1.p ∧ r1.p ≤ 1000000000 ∧ r1.b.length ≤ 2000 ∧ 1 ≤ list.length ∧ (∀ x ∈ list, x.size ≤ 80)⟩
theorem ok67 (r1X : SV) (gr1 : Nat) (r1 : l51Rd) (list : List ByteArray) : (S67 r1X gr1 r1 list).ok Tryz.prog 67 :=
 fnG_ok mixed (fn := Tryz.f67) (ct := .seqk [(0, 0), (1, 0)] .no (.seq (.reg [(4, .call 48 (S48 r1X 0 (⟨r1.b, r1.p⟩ : l51Rd) (list.length : Int)) (ok48 r1X 0 (⟨r1.b, r1.p⟩ : l51Rd) (list.length : Int)) none)]) .no)) Tryz.func67 (fun (hp : 0 ≤ r1.p ∧ r1.p ≤ 1000000000 ∧ r1.b.length ≤ 2000 ∧ 1 ≤ list.length ∧ (∀ x ∈ list, x.size ≤ 80)) => have hpre0 := hp.1; have hpre1 := hp.2.1; have hpre2 := hp.2.2.1; have hpre3 := hp.2.2.2.1; have hpre4 := hp.2.2.2.2; kn r1.b fun _ => kn list fun _ => ai (ai (by omega : 0 ≤ r1.p) (ai (by omega : r1.p ≤ 1000000000) (by omega : r1.b.length ≤ 2000))) (ai (Eq.refl (sv r1X)) (ai (Imp.refl (.l 1 eByte r1.b)) (ai (Imps.refl [.v (vI r1.p)]) (ai (Imp.refl (.v (vI (list.length : Int)))) (have gv1 : 0 ≤ (F48 (⟨r1.b, r1.p⟩ : l51Rd) (list.length : Int)).1 ∧ (1 ≤ (list.length : Int) → (F48 (⟨r1.b, r1.p⟩ : l51Rd) (list.length : Int)).1 < (list.length : Int)) ∧ (F48 (⟨r1.b, r1.p⟩ : l51Rd) (list.length : Int)).2 = r1.p + 1 := pick_in (⟨r1.b, r1.p⟩ : l51Rd) (list.length : Int) (by omega : 0 ≤ r1.p) (by omega : r1.p ≤ 1000000000); ai (by omega : ib ((F48 (⟨r1.b, r1.p⟩ : l51Rd) (list.length : Int)).1) list) ((fun hF : ((list.getD (Int.toNat ((F48 (⟨r1.b, r1.p⟩ : l51Rd) (list.length : Int)).1)) default), (F48 (⟨r1.b, r1.p⟩ : l51Rd) (list.length : Int)).2) = (F67 r1 list) => ai (congrArg (fun r : ByteArray × Int => (.string r.1 : Value)) hF) (ai (ai (Imp.refl (Dat.v (sv r1X))) (ai (Imp.of_eq (congrArg (fun r : ByteArray × Int => Dat.v (vI r.2)) hF)) trivial)) trivial)) rfl))))))) (by kernel_rfl)
theorem of_p (r1 : l51Rd) (list : List ByteArray) : (F67 r1 list).2 = r1.p + 1 := by
 unfold F67
 exact pick_p _ _
theorem of_le {n : Nat} (r1 : l51Rd) (list : List ByteArray) (h : ∀ x ∈ list, x.size ≤ n) : (F67 r1 list).1.size ≤ n := by
 unfold F67
 exact getD_sz h _
theorem of_q (r1 : l51Rd) (list : List ByteArray) (h0 : 0 ≤ r1.p) (h1 : r1.p ≤ 1000000000) (h : ∀ x ∈ list, x.size ≤ 80) : (F67 r1 list).1.size ≤ 80 ∧ (F67 r1 list).2 = r1.p + 1 := ⟨of_le r1 list h, of_p r1 list⟩
abbrev w19_ : ByteArray := ⟨#[49, 48, 46, 48, 47, 56]⟩
abbrev w20_ : ByteArray := ⟨#[49, 48, 46, 48, 47, 49, 54]⟩
abbrev w21_ : ByteArray := ⟨#[49, 48, 46, 49, 50, 56, 47, 57]⟩
abbrev w22_ : ByteArray := ⟨#[49, 49, 46, 48, 47, 56]⟩
abbrev w23_ : ByteArray := ⟨#[48, 46, 48, 47, 48]⟩
abbrev w24_ : ByteArray := ⟨#[49, 49, 46, 52, 47, 49, 54]⟩
abbrev w25_ : ByteArray := ⟨#[50, 48, 48, 46, 48, 47, 49, 53]⟩
abbrev w26_ : ByteArray := ⟨#[50, 48, 48, 46, 48, 47, 57]⟩
def F131 (r1 : l51Rd) : ByteArray × Int :=
 ((F67 (⟨r1.b, r1.p⟩ : l51Rd) ([(⟨#[49, 48, 46, 48, 47, 56]⟩ : ByteArray), (⟨#[49, 48, 46, 48, 47, 49, 54]⟩ : ByteArray), (⟨#[49, 48, 46, 49, 50, 56, 47, 57]⟩ : ByteArray), (⟨#[49, 49, 46, 48, 47, 56]⟩ : ByteArray), (⟨#[48, 46, 48, 47, 48]⟩ : ByteArray), (⟨#[49, 49, 46, 52, 47, 49, 54]⟩ : ByteArray), (⟨#[50, 48, 48, 46, 48, 47, 49, 53]⟩ : ByteArray), (⟨#[50, 48, 48, 46, 48, 47, 57]⟩ : ByteArray)] : List ByteArray)).1, (F67 (⟨r1.b, r1.p⟩ : l51Rd) ([(⟨#[49, 48, 46, 48, 47, 56]⟩ : ByteArray), (⟨#[49, 48, 46, 48, 47, 49, 54]⟩ : ByteArray), (⟨#[49, 48, 46, 49, 50, 56, 47, 57]⟩ : ByteArray), (⟨#[49, 49, 46, 48, 47, 56]⟩ : ByteArray), (⟨#[48, 46, 48, 47, 48]⟩ : ByteArray), (⟨#[49, 49, 46, 52, 47, 49, 54]⟩ : ByteArray), (⟨#[50, 48, 48, 46, 48, 47, 49, 53]⟩ : ByteArray), (⟨#[50, 48, 48, 46, 48, 47, 57]⟩ : ByteArray)] : List ByteArray)).2)
def S131 (r1X : SV) (gr1 : Nat) (r1 : l51Rd) : Spec := ⟨[.ptg gr1 86 (sv r1X) (.l 1 eByte r1.b) [.v (vI r1.p)] [.v (vI ((F131 r1).2))]], .v (.string ((F131 r1).1)), 0 ≤ r1.p ∧ r1.p ≤ 1000000000 ∧ r1.b.length ≤ 2000⟩
theorem ok131 (r1X : SV) (gr1 : Nat) (r1 : l51Rd) : (S131 r1X gr1 r1).ok Tryz.prog 131 :=
 fnG_ok mixed (fn := Tryz.f131) (ct := .seqk [(0, 0)] .no (.seq (.reg [(1, .dat (.l 1 eStr ([w19_, w20_, w21_, w22_, w23_, w24_, w25_, w26_] : List ByteArray))), (2, .call 67 (S67 r1X 0 (⟨r1.b, r1.p⟩ : l51Rd) ([w19_, w20_, w21_, w22_, w23_, w24_, w25_, w26_] : List ByteArray)) (ok67 r1X 0 (⟨r1.b, r1.p⟩ : l51Rd) ([w19_, w20_, w21_, w22_, w23_, w24_, w25_, w26_] : List ByteArray)) none)]) .no)) Tryz.func131 (fun (hp : 0 ≤ r1.p ∧ r1.p ≤ 1000000000 ∧ r1.b.length ≤ 2000) => have hpre0 := hp.1; have hpre1 := hp.2.1; have hpre2 := hp.2.2; kn r1.b fun _ => ai (bokr 1 eStr ([w19_, w20_, w21_, w22_, w23_, w24_, w25_, w26_] : List ByteArray) fun _ => rfl) (ai (ai (by first | omega | decide : 0 ≤ r1.p) (ai (by first | omega | decide : r1.p ≤ 1000000000) (ai (by first | omega | decide : r1.b.length ≤ 2000) (ai (by first | omega | decide : 1 ≤ ([w19_, w20_, w21_, w22_, w23_, w24_, w25_, w26_] : List ByteArray).length) (by first | omega | decide : ∀ x ∈ ([w19_, w20_, w21_, w22_, w23_, w24_, w25_, w26_] : List ByteArray), x.size ≤ 80))))) (ai (Eq.refl (sv r1X)) (ai (Imp.refl (.l 1 eByte r1.b)) (ai (Imps.refl [.v (vI r1.p)]) (ai (Imp.refl (.l 1 eStr ([w19_, w20_, w21_, w22_, w23_, w24_, w25_, w26_] : List ByteArray))) (have gv1 : (F67 (⟨r1.b, r1.p⟩ : l51Rd) ([w19_, w20_, w21_, w22_, w23_, w24_, w25_, w26_] : List ByteArray)).1.size ≤ 80 ∧ (F67 (⟨r1.b, r1.p⟩ : l51Rd) ([w19_, w20_, w21_, w22_, w23_, w24_, w25_, w26_] : List ByteArray)).2 = r1.p + 1 := of_q (⟨r1.b, r1.p⟩ : l51Rd) ([w19_, w20_, w21_, w22_, w23_, w24_, w25_, w26_] : List ByteArray) (by first | omega | decide : 0 ≤ r1.p) (by first | omega | decide : r1.p ≤ 1000000000) (by first | omega | decide : ∀ x ∈ ([w19_, w20_, w21_, w22_, w23_, w24_, w25_, w26_] : List ByteArray), x.size ≤ 80); (fun hF : ((F67 (⟨r1.b, r1.p⟩ : l51Rd) ([w19_, w20_, w21_, w22_, w23_, w24_, w25_, w26_] : List ByteArray)).1, (F67 (⟨r1.b, r1.p⟩ : l51Rd) ([w19_, w20_, w21_, w22_, w23_, w24_, w25_, w26_] : List ByteArray)).2) = (F131 r1) => ai (congrArg (fun r : ByteArray × Int => (.string r.1 : Value)) hF) (ai (ai (Imp.refl (Dat.v (sv r1X))) (ai (Imp.of_eq (congrArg (fun r : ByteArray × Int => Dat.v (vI r.2)) hF)) trivial)) trivial)) rfl))))))) (by kernel_rfl)
abbrev w27_ : ByteArray := ⟨#[49, 48, 46, 49]⟩
abbrev w28_ : ByteArray := ⟨#[49, 48, 46, 50]⟩
abbrev w29_ : ByteArray := ⟨#[49, 49, 46, 52]⟩
abbrev w30_ : ByteArray := ⟨#[50, 48, 48, 46, 49]⟩
abbrev w31_ : ByteArray := ⟨#[48, 46, 48]⟩
abbrev w32_ : ByteArray := ⟨#[50, 53, 53, 46, 50, 53, 53]⟩
def F132 (r1 : l51Rd) : ByteArray × Int :=
 ((F67 (⟨r1.b, r1.p⟩ : l51Rd) ([(⟨#[49, 48, 46, 49]⟩ : ByteArray), (⟨#[49, 48, 46, 50]⟩ : ByteArray), (⟨#[49, 49, 46, 52]⟩ : ByteArray), (⟨#[50, 48, 48, 46, 49]⟩ : ByteArray), (⟨#[48, 46, 48]⟩ : ByteArray), (⟨#[50, 53, 53, 46, 50, 53, 53]⟩ : ByteArray)] : List ByteArray)).1, (F67 (⟨r1.b, r1.p⟩ : l51Rd) ([(⟨#[49, 48, 46, 49]⟩ : ByteArray), (⟨#[49, 48, 46, 50]⟩ : ByteArray), (⟨#[49, 49, 46, 52]⟩ : ByteArray), (⟨#[50, 48, 48, 46, 49]⟩ : ByteArray), (⟨#[48, 46, 48]⟩ : ByteArray), (⟨#[50, 53, 53, 46, 50, 53, 53]⟩ : ByteArray)] : List ByteArray)).2)
def S132 (r1X : SV) (gr1 : Nat) (r1 : l51Rd) : Spec := ⟨[.ptg gr1 86 (sv r1X) (.l 1 eByte r1.b) [.v (vI r1.p)] [.v (vI ((F132 r1).2))]], .v (.string ((F132 r1).1)), 0 ≤ r1.p ∧ r1.p ≤ 1000000000 ∧ r1.b.length ≤ 2000⟩
theorem ok132 (r1X : SV) (gr1 : Nat) (r1 : l51Rd) : (S132 r1X gr1 r1).ok Tryz.prog 132 :=
 fnG_ok mixed (fn := Tryz.f132) (ct := .seqk [(0, 0)] .no (.seq (.reg [(1, .dat (.l 1 eStr ([w27_, w28_, w29_, w30_, w31_, w32_] : List ByteArray))), (2, .call 67 (S67 r1X 0 (⟨r1.b, r1.p⟩ : l51Rd) ([w27_, w28_, w29_, w30_, w31_, w32_] : List ByteArray)) (ok67 r1X 0 (⟨r1.b, r1.p⟩ : l51Rd) ([w27_, w28_, w29_, w30_, w31_, w32_] : List ByteArray)) none)]) .no)) Tryz.func132 (fun (hp : 0 ≤ r1.p ∧ r1.p ≤ 1000000000 ∧ r1.b.length ≤ 2000) => have hpre0 := hp.1; have hpre1 := hp.2.1; have hpre2 := hp.2.2; kn r1.b fun _ => ai (bokr 1 eStr ([w27_, w28_, w29_, w30_, w31_, w32_] : List ByteArray) fun _ => rfl) (ai (ai (by first | omega | decide : 0 ≤ r1.p) (ai (by first | omega | decide : r1.p ≤ 1000000000) (ai (by first | omega | decide : r1.b.length ≤ 2000) (ai (by first | omega | decide : 1 ≤ ([w27_, w28_, w29_, w30_, w31_, w32_] : List ByteArray).length) (by first | omega | decide : ∀ x ∈ ([w27_, w28_, w29_, w30_, w31_, w32_] : List ByteArray), x.size ≤ 80))))) (ai (Eq.refl (sv r1X)) (ai (Imp.refl (.l 1 eByte r1.b)) (ai (Imps.refl [.v (vI r1.p)]) (ai (Imp.refl (.l 1 eStr ([w27_, w28_, w29_, w30_, w31_, w32_] : List ByteArray))) (have gv1 : (F67 (⟨r1.b, r1.p⟩ : l51Rd) ([w27_, w28_, w29_, w30_, w31_, w32_] : List ByteArray)).1.size ≤ 80 ∧ (F67 (⟨r1.b, r1.p⟩ : l51Rd) ([w27_, w28_, w29_, w30_, w31_, w32_] : List ByteArray)).2 = r1.p + 1 := of_q (⟨r1.b, r1.p⟩ : l51Rd) ([w27_, w28_, w29_, w30_, w31_, w32_] : List ByteArray) (by first | omega | decide : 0 ≤ r1.p) (by first | omega | decide : r1.p ≤ 1000000000) (by first | omega | decide : ∀ x ∈ ([w27_, w28_, w29_, w30_, w31_, w32_] : List ByteArray), x.size ≤ 80); (fun hF : ((F67 (⟨r1.b, r1.p⟩ : l51Rd) ([w27_, w28_, w29_, w30_, w31_, w32_] : List ByteArray)).1, (F67 (⟨r1.b, r1.p⟩ : l51Rd) ([w27_, w28_, w29_, w30_, w31_, w32_] : List ByteArray)).2) = (F132 r1) => ai (congrArg (fun r : ByteArray × Int => (.string r.1 : Value)) hF) (ai (ai (Imp.refl (Dat.v (sv r1X))) (ai (Imp.of_eq (congrArg (fun r : ByteArray × Int => Dat.v (vI r.2)) hF)) trivial)) trivial)) rfl))))))) (by kernel_rfl)
theorem prefix_q (r1 : l51Rd) (h0 : 0 ≤ r1.p) (h1 : r1.p ≤ 1000000000) : (F131 r1).1.size ≤ 80 ∧ (F131 r1).2 = r1.p + 1 := by
 unfold F131
 exact of_q _ _ h0 h1 (by decide)
theorem addr_q (r1 : l51Rd) (h0 : 0 ≤ r1.p) (h1 : r1.p ≤ 1000000000) : (F132 r1).1.size ≤ 80 ∧ (F132 r1).2 = r1.p + 1 := by
 unfold F132
 exact of_q _ _ h0 h1 (by decide)
theorem prefix_le (r1 : l51Rd) : (F131 r1).1.size ≤ 80 := by
 unfold F131
 exact of_le _ _ (by decide)
theorem addr_le (r1 : l51Rd) : (F132 r1).1.size ≤ 80 := by
 unfold F132
 exact of_le _ _ (by decide)
theorem prefix_p (r1 : l51Rd) : (F131 r1).2 = r1.p + 1 := by
 unfold F131
 exact of_p _ _
theorem addr_p (r1 : l51Rd) : (F132 r1).2 = r1.p + 1 := by
 unfold F132
 exact of_p _ _
theorem app_le {x y : ByteArray} {a b : Nat} (hx : x.size ≤ a) (hy : y.size ≤ b) : (x ++ y).size ≤ a + b := by
 rw [ByteArray.size_append]; omega
theorem lit_le (a : Array UInt8) : (⟨a⟩ : ByteArray).size ≤ a.size := Nat.le_refl _
theorem condS_le {c : Bool} {x y : ByteArray} {a b : Nat} (hx : x.size ≤ a) (hy : y.size ≤ b) : (bif c then x else y).size ≤ a + b := by
 cases c
 ·show y.size ≤ a + b; omega
 ·show x.size ≤ a + b; omega
theorem sumLe {x y : ByteArray} {a b : Nat} (hx : x.size ≤ a) (hy : y.size ≤ b) (h : a + b ≤ 1000000000) : ((x.size + y.size : Nat) : Int) ≤ 9223372036854775807 := by omega
theorem szLe {s : ByteArray} {n m : Nat} (h : s.size ≤ n) (hn : n ≤ m) : s.size ≤ m := Nat.le_trans h hn
theorem cond_P {α : Type} {P : α → Prop} {c : Bool} {x y : α} (hx : P x) (hy : P y) : P (bif c then x else y) := by
 cases c
 ·exact hy
 ·exact hx
end Go.Proofs.YtabmhncnckahfaaGreatDoor
