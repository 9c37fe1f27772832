/- The plain law of the chart: mothers and daughters exchanged; the judge's marks. -/
import Derived.Test.YtcdbkgpgjjeoiaaDoorV4
namespace Go.Proofs.YtcdbkgpgjjeoiaaDoor
open Go Go.RowKit
set_option maxRecDepth 100000

theorem bitB_test (x l : Nat) : bitB x l = x.testBit l := by
  unfold bitB
  rw [Nat.testBit_eq_decide_div_mod_eq]
theorem dg_bit (F : Nat → Nat) (s : Nat) : ∀ n i, (dg F s n).testBit i = (decide (i < n) && (F i).testBit s)
  | 0, i => by simp [dg]
  | n + 1, i => by
    rw [dg, Nat.testBit_or, dg_bit F s n i]
    have hb : F n / 2 ^ s % 2 = 0 ∨ F n / 2 ^ s % 2 = 1 := by omega
    have ht : (F n).testBit s = decide (F n / 2 ^ s % 2 = 1) := by rw [Nat.testBit_eq_decide_div_mod_eq]
    by_cases e : i = n
    · subst e
      rcases hb with h | h
      · rw [h, ht, h]; simp
      · rw [h, ht, h]; simp
    · have e2 : decide (i < n + 1) = decide (i < n) := by rw [decide_eq_decide]; omega
      rw [e2]
      rcases hb with h | h
      · rw [h]; simp
      · rw [h, Nat.one_mul, Nat.testBit_two_pow]
        have : ¬ n = i := fun h => e h.symm
        simp [this]
theorem dg_congr {F G : Nat → Nat} (s : Nat) : ∀ n, (∀ i, i < n → F i = G i) → dg F s n = dg G s n
  | 0, _ => rfl
  | n + 1, h => by
    rw [dg, dg, dg_congr s n (fun i hi => h i (by omega)), h n (by omega)]
/-- The daughters of the daughters are the mothers. -/
theorem dg_dg (F : Nat → Nat) (hF : ∀ i, i < 4 → F i < 16) (s : Nat) (hs : s < 4) : dg (fun i => dg F i 4) s 4 = F s := by
  apply Nat.eq_of_testBit_eq
  intro i
  rw [dg_bit]
  by_cases hi : i < 4
  · rw [dg_bit]; simp [hi, hs]
  · simp only [hi, decide_false, Bool.false_and]
    rw [Nat.testBit_lt_two_pow]
    exact Nat.lt_of_lt_of_le (hF s hs) (Nat.pow_le_pow_right (n := 2) (by omega) (show 4 ≤ i by omega))
theorem der_at (M : Nat → Nat) (k : Nat) (h8 : 8 ≤ k) (h16 : k < 16) (a b : Nat) (ha : pa k = a) (hb : pb k = b) : der M k = der M a ^^^ der M b := by
  have h1 := der_fol M k (by omega) h16
  rw [h1]
  unfold fol
  rw [if_pos h8, ha, hb]
theorem der_dg (M : Nat → Nat) (s : Nat) (hs : s < 4) : der M (4 + s) = dg M s 4 := by
  rw [der_fol M (4 + s) (by omega) (by omega)]
  unfold fol
  rw [if_neg (by omega), show 4 + s - 4 = s by omega]
  exact dg_congr s 4 fun i hi => der_lo M i hi
/-- The chart whose mothers are the daughters. -/
def ex (M : Nat → Nat) : Nat → Nat := der (fun i => der M (4 + i))
theorem ex_at (M : Nat → Nat) (hM : ∀ i, i < 4 → M i < 16) : (∀ s, s < 4 → ex M (4 + s) = der M s) ∧ ex M 12 = der M 13 ∧ ex M 13 = der M 12 ∧ ex M 14 = der M 14 := by
  have h4 : ∀ s, s < 4 → ex M (4 + s) = der M s := fun s hs => by
    unfold ex
    rw [der_dg _ s hs, der_lo M s hs, ← dg_dg M hM s hs]
    exact dg_congr s 4 fun i hi => der_dg M i hi
  have h0 : ∀ s, s < 4 → ex M s = der M (4 + s) := fun s hs => by unfold ex; rw [der_lo _ s hs]
  have q : ∀ k a b, 8 ≤ k → k < 16 → pa k = a → pb k = b → ex M k = ex M a ^^^ ex M b := fun k a b h8 h16 ha hb => der_at _ k h8 h16 a b ha hb
  have r : ∀ k a b, 8 ≤ k → k < 16 → pa k = a → pb k = b → der M k = der M a ^^^ der M b := fun k a b h8 h16 ha hb => der_at _ k h8 h16 a b ha hb
  have e8 : ex M 8 = der M 10 := by rw [q 8 0 1 (by omega) (by omega) rfl rfl, h0 0 (by omega), h0 1 (by omega), r 10 4 5 (by omega) (by omega) rfl rfl]
  have e9 : ex M 9 = der M 11 := by rw [q 9 2 3 (by omega) (by omega) rfl rfl, h0 2 (by omega), h0 3 (by omega), r 11 6 7 (by omega) (by omega) rfl rfl]
  have e10 : ex M 10 = der M 8 := by rw [q 10 4 5 (by omega) (by omega) rfl rfl, show ex M 4 = _ from h4 0 (by omega), show ex M 5 = _ from h4 1 (by omega), r 8 0 1 (by omega) (by omega) rfl rfl]
  have e11 : ex M 11 = der M 9 := by rw [q 11 6 7 (by omega) (by omega) rfl rfl, show ex M 6 = _ from h4 2 (by omega), show ex M 7 = _ from h4 3 (by omega), r 9 2 3 (by omega) (by omega) rfl rfl]
  have e12 : ex M 12 = der M 13 := by rw [q 12 8 9 (by omega) (by omega) rfl rfl, e8, e9, r 13 10 11 (by omega) (by omega) rfl rfl]
  have e13 : ex M 13 = der M 12 := by rw [q 13 10 11 (by omega) (by omega) rfl rfl, e10, e11, r 12 8 9 (by omega) (by omega) rfl rfl]
  exact ⟨h4, e12, e13, by rw [q 14 12 13 (by omega) (by omega) rfl rfl, e12, e13, r 14 12 13 (by omega) (by omega) rfl rfl, Nat.xor_comm]⟩
/-- How many of the first k lines have one mark. -/
def onT (f : Nat) : Nat → Nat
  | 0 => 0
  | k + 1 => onT f k + f / 2 ^ k % 2
theorem onT_le (f : Nat) : ∀ k, onT f k ≤ k
  | 0 => by simp [onT]
  | k + 1 => by
    have := onT_le f k
    have := Nat.mod_lt (f / 2 ^ k) (show 0 < 2 by omega)
    rw [onT]; omega
theorem onT_xor (a b : Nat) (ha : a < 16) (hb : b < 16) : onT (a ^^^ b) 4 % 2 = (onT a 4 + onT b 4) % 2 := by
  have : ∀ a b : Fin 16, onT (a.1 ^^^ b.1) 4 % 2 = (onT a.1 4 + onT b.1 4) % 2 := by decide +kernel
  exact this ⟨a, ha⟩ ⟨b, hb⟩
theorem bit_num (x i : Nat) (b : Bool) (h : x.testBit i = b) : x / 2 ^ i % 2 = b.toNat := by
  rw [Nat.testBit_eq_decide_div_mod_eq] at h
  have := Nat.mod_lt (x / 2 ^ i) (show 0 < 2 by omega)
  cases b <;> simp at h ⊢ <;> omega
theorem judge_even (M : Nat → Nat) (hM : ∀ i, i < 4 → M i < 16) : onT (der M 14) 4 % 2 = 0 := by
  have hlt : ∀ i, i < 16 → der M i < 16 := fun i hi => der_lt M hM i hi
  have r : ∀ k a b, 8 ≤ k → k < 16 → a < 16 → b < 16 → pa k = a → pb k = b → onT (der M k) 4 % 2 = (onT (der M a) 4 + onT (der M b) 4) % 2 := fun k a b h8 h16 ha hb ea eb => by
    rw [der_at M k h8 h16 a b ea eb, onT_xor _ _ (hlt a ha) (hlt b hb)]
  have r8 := r 8 0 1 (by omega) (by omega) (by omega) (by omega) rfl rfl
  have r9 := r 9 2 3 (by omega) (by omega) (by omega) (by omega) rfl rfl
  have r10 := r 10 4 5 (by omega) (by omega) (by omega) (by omega) rfl rfl
  have r11 := r 11 6 7 (by omega) (by omega) (by omega) (by omega) rfl rfl
  have r12 := r 12 8 9 (by omega) (by omega) (by omega) (by omega) rfl rfl
  have r13 := r 13 10 11 (by omega) (by omega) (by omega) (by omega) rfl rfl
  have r14 := r 14 12 13 (by omega) (by omega) (by omega) (by omega) rfl rfl
  have hd : ∀ s, s < 4 → onT (der M (4 + s)) 4 = M 0 / 2 ^ s % 2 + M 1 / 2 ^ s % 2 + M 2 / 2 ^ s % 2 + M 3 / 2 ^ s % 2 := fun s hs => by
    rw [der_dg M s hs]
    have hq : ∀ i, i < 4 → dg M s 4 / 2 ^ i % 2 = M i / 2 ^ s % 2 := fun i hi => by
      rw [bit_num _ i ((M i).testBit s) (by rw [dg_bit]; simp [hi]), bit_num _ s _ rfl]
    simp only [onT]
    rw [hq 0 (by omega), hq 1 (by omega), hq 2 (by omega), hq 3 (by omega)]
    omega
  have hm : ∀ i, i < 4 → onT (der M i) 4 = M i / 2 ^ 0 % 2 + M i / 2 ^ 1 % 2 + M i / 2 ^ 2 % 2 + M i / 2 ^ 3 % 2 := fun i hi => by
    rw [der_lo M i hi]; simp only [onT]; omega
  have d0 := hd 0 (by omega)
  have d1 := hd 1 (by omega)
  have d2 := hd 2 (by omega)
  have d3 := hd 3 (by omega)
  have m0 := hm 0 (by omega)
  have m1 := hm 1 (by omega)
  have m2 := hm 2 (by omega)
  have m3 := hm 3 (by omega)
  simp only [Nat.add_zero, Nat.reduceAdd] at d0 d1 d2 d3
  generalize M 0 / 2 ^ 0 % 2 = b00 at *
  generalize M 0 / 2 ^ 1 % 2 = b01 at *
  generalize M 0 / 2 ^ 2 % 2 = b02 at *
  generalize M 0 / 2 ^ 3 % 2 = b03 at *
  generalize M 1 / 2 ^ 0 % 2 = b10 at *
  generalize M 1 / 2 ^ 1 % 2 = b11 at *
  generalize M 1 / 2 ^ 2 % 2 = b12 at *
  generalize M 1 / 2 ^ 3 % 2 = b13 at *
  generalize M 2 / 2 ^ 0 % 2 = b20 at *
  generalize M 2 / 2 ^ 1 % 2 = b21 at *
  generalize M 2 / 2 ^ 2 % 2 = b22 at *
  generalize M 2 / 2 ^ 3 % 2 = b23 at *
  generalize M 3 / 2 ^ 0 % 2 = b30 at *
  generalize M 3 / 2 ^ 1 % 2 = b31 at *
  generalize M 3 / 2 ^ 2 % 2 = b32 at *
  generalize M 3 / 2 ^ 3 % 2 = b33 at *
  clear hd hm r hlt
  omega
theorem der_sum (M : Nat → Nat) : der M 0 ^^^ der M 1 ^^^ der M 2 ^^^ der M 3 ^^^ der M 4 ^^^ der M 5 ^^^ der M 6 ^^^ der M 7 = der M 14 := by
  have r : ∀ k a b, 8 ≤ k → k < 16 → pa k = a → pb k = b → der M k = der M a ^^^ der M b := fun k a b h8 h16 ha hb => der_at _ k h8 h16 a b ha hb
  rw [r 14 12 13 (by omega) (by omega) rfl rfl, r 12 8 9 (by omega) (by omega) rfl rfl, r 13 10 11 (by omega) (by omega) rfl rfl, r 8 0 1 (by omega) (by omega) rfl rfl, r 9 2 3 (by omega) (by omega) rfl rfl, r 10 4 5 (by omega) (by omega) rfl rfl, r 11 6 7 (by omega) (by omega) rfl rfl]
  simp only [Nat.xor_assoc]
end Go.Proofs.YtcdbkgpgjjeoiaaDoor
