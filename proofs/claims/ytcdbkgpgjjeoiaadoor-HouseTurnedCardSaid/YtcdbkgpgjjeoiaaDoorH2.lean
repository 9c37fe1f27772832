/- The plain law of the houses: sets of places as words. -/
import Derived.Test.YtcdbkgpgjjeoiaaDoorH4
import Derived.Test.YtcdbkgpgjjeoiaaDoorW14
namespace Go.Proofs.YtcdbkgpgjjeoiaaDoor
open Go
set_option maxRecDepth 100000

/-- The set of the first k places with p, as a word. -/
def setN (p : Nat → Bool) : Nat → Nat
  | 0 => 0
  | k + 1 => setN p k + if p k then 2 ^ k else 0
theorem setN_lt (p : Nat → Bool) : ∀ k, setN p k < 2 ^ k
  | 0 => by simp [setN]
  | k + 1 => by
    have h := setN_lt p k
    rw [setN, Nat.pow_succ]
    split <;> omega
theorem setN_bit (p : Nat → Bool) : ∀ k i, (setN p k).testBit i = (decide (i < k) && p i)
  | 0, i => by simp [setN]
  | k + 1, i => by
    have h := setN_bit p k i
    have hl := setN_lt p k
    rw [setN]
    by_cases hp : p k
    · rw [if_pos hp, Nat.add_comm]
      by_cases e : i = k
      · subst e
        rw [Nat.testBit_two_pow_add_eq, Nat.testBit_lt_two_pow hl]
        simp [hp]
      · by_cases hi : i < k
        · rw [Nat.testBit_two_pow_add_gt hi, h]
          simp [hi, show i < k + 1 by omega]
        · have : 2 ^ k + setN p k < 2 ^ i := Nat.lt_of_lt_of_le (show 2 ^ k + setN p k < 2 ^ (k + 1) by rw [Nat.pow_succ]; omega) (Nat.pow_le_pow_right (by omega) (by omega))
          rw [Nat.testBit_lt_two_pow this]
          simp [show ¬ i < k + 1 by omega]
    · rw [if_neg hp, Nat.add_zero, h]
      by_cases e : i = k
      · subst e; simp [hp]
      · have : (i < k) = (i < k + 1) := propext ⟨fun _ => by omega, fun _ => by omega⟩
        simp only [this]
theorem setN_congr {p q : Nat → Bool} {k : Nat} (h : ∀ i, i < k → p i = q i) : setN p k = setN q k := by
  apply Nat.eq_of_testBit_eq
  intro i
  rw [setN_bit, setN_bit]
  by_cases hi : i < k
  · rw [h i hi]
  · simp [hi]
theorem setN_and (p q : Nat → Bool) (k : Nat) : setN p k &&& setN q k = setN (fun i => p i && q i) k := by
  apply Nat.eq_of_testBit_eq
  intro i
  rw [Nat.testBit_and, setN_bit, setN_bit, setN_bit]
  cases decide (i < k) <;> simp
theorem setN_or (p q : Nat → Bool) (k : Nat) : setN p k ||| setN q k = setN (fun i => p i || q i) k := by
  apply Nat.eq_of_testBit_eq
  intro i
  rw [Nat.testBit_or, setN_bit, setN_bit, setN_bit]
  cases decide (i < k) <;> simp
theorem setN_andn (p q : Nat → Bool) (k : Nat) (hk : k ≤ 64) : setN p k &&& (2 ^ 64 - (setN q k + 1)) = setN (fun i => p i && !q i) k := by
  have hl : setN q k < 2 ^ 64 := Nat.lt_of_lt_of_le (setN_lt q k) (Nat.pow_le_pow_right (by omega) hk)
  apply Nat.eq_of_testBit_eq
  intro i
  rw [Nat.testBit_and, Nat.testBit_two_pow_sub_succ hl, setN_bit, setN_bit, setN_bit]
  by_cases hi : i < k
  · simp [hi, show i < 64 by omega]
  · simp [hi]
theorem setN_one (a : Nat) (ha : a < 12) : 2 ^ a = setN (fun i => i == a) 12 := by
  have : ∀ a : Fin 12, 2 ^ a.1 = setN (fun i => i == a.1) 12 := by decide +kernel
  exact this ⟨a, ha⟩
theorem setN_lt12 (p : Nat → Bool) : setN p 12 < 4096 := setN_lt p 12
theorem bitsL_bit (p : Nat → Bool) : bitsL (setN p 12).testBit = bitsL p := by
  unfold bitsL
  refine List.filter_congr fun i hi => ?_
  rw [setN_bit]
  simp [List.mem_range.1 hi]
/-- The first place of a set, and the others. -/
theorem bits_next (n : Nat) (h0 : n ≠ 0) (h : n < 4096) : bitsL n.testBit = tz n :: bitsL (n &&& (n - 1)).testBit ∧ tz n < 12 ∧ (n &&& (n - 1)) < 4096 := by
  have : ∀ n : Fin 4096, n.1 ≠ 0 → bitsL n.1.testBit = tz n.1 :: bitsL (n.1 &&& (n.1 - 1)).testBit ∧ tz n.1 < 12 ∧ (n.1 &&& (n.1 - 1)) < 4096 := by decide +kernel
  exact this ⟨n, h⟩ h0
theorem bits_none : bitsL (0 : Nat).testBit = [] := by decide
theorem u64_andn (a b : Nat) (ha : a < 18446744073709551616) (hb : b < 18446744073709551616) : bits .andNot .u64 (a : Int) (b : Int) = ((a &&& (2 ^ 64 - (b + 1)) : Nat) : Int) := by
  show IntKind.u64.wrap (((BitVec.ofInt 64 (a : Int) &&& ~~~ BitVec.ofInt 64 (b : Int)).toNat : Nat) : Int) = _
  rw [BitVec.toNat_and, BitVec.toNat_not, bits_natU a ha, bits_natU b hb, Nat.sub_sub, Nat.add_comm 1 b]
  exact wrap_natU _ (Nat.lt_of_le_of_lt Nat.and_le_left ha)
end Go.Proofs.YtcdbkgpgjjeoiaaDoor
