/- Shares: counts add up; how many charts have each judge: plain Lean. -/
import Derived.Test.YtphnibllfpkkkaaDoorG2
namespace Go.Proofs.YtphnibllfpkkkaaDoor
open Go Go.RowKit
set_option maxRecDepth 100000

theorem sumN_split (f : Nat → Nat) (a : Nat) : ∀ b, sumN f (a + b) = sumN f a + sumN (fun i => f (a + i)) b
  | 0 => by simp [sumN]
  | b + 1 => by
    rw [show a + (b + 1) = (a + b) + 1 by omega, sumN, sumN_split f a b, sumN]
    omega
theorem add_xor (d i : Nat) (hi : i < 2 ^ d) : 2 ^ d + i = i ^^^ 2 ^ d := by
  have h := Nat.two_pow_add_eq_or_of_lt hi 1
  rw [Nat.mul_one] at h
  rw [h]
  apply Nat.eq_of_testBit_eq
  intro j
  rw [Nat.testBit_or, Nat.testBit_xor, Nat.testBit_two_pow]
  by_cases e : d = j
  · subst e
    rw [Nat.testBit_lt_two_pow hi]; simp
  · simp [e]
theorem der_xorN (a b k : Nat) (hk : k < 16) : der (mths (a ^^^ b)) k = der (mths a) k ^^^ der (mths b) k := by
  rw [← der_xor _ _ k hk]
  congr 1
  funext j
  exact mths_xor a b j
theorem xor_move (x c t : Nat) : x ^^^ c = t ↔ x = t ^^^ c := by
  constructor
  · intro h
    rw [← h, Nat.xor_assoc, Nat.xor_self, Nat.xor_zero]
  · intro h
    rw [h, Nat.xor_assoc, Nat.xor_self, Nat.xor_zero]
/-- How many of the first 2^d charts have each judge. -/
def jdL : Nat → List Nat
  | 0 => [1, 0, 0, 0, 0, 0, 0, 0, 0, 0, 0, 0, 0, 0, 0, 0]
  | d + 1 => (List.range 16).map fun t => (jdL d).getD t 0 + (jdL d).getD (t ^^^ der (mths (2 ^ d)) 14) 0
theorem jd_zero (t : Nat) (ht : t < 16) : (if der (mths 0) 14 = t then 1 else 0) = (jdL 0).getD t 0 := by
  have : ∀ t : Fin 16, (if der (mths 0) 14 = t.1 then 1 else 0) = (jdL 0).getD t.1 0 := by decide +kernel
  exact this ⟨t, ht⟩
theorem jd_at : ∀ d t, t < 16 → sumN (fun n => if der (mths n) 14 = t then 1 else 0) (2 ^ d) = (jdL d).getD t 0
  | 0, t, ht => by
    rw [← jd_zero t ht]
    simp [sumN]
  | d + 1, t, ht => by
    have hc : der (mths (2 ^ d)) 14 < 16 := der_lt _ (fun i _ => mths_lt _ i) 14 (by omega)
    have hx : t ^^^ der (mths (2 ^ d)) 14 < 16 := Nat.xor_lt_two_pow (n := 4) ht hc
    have e1 : sumN (fun i => if der (mths (2 ^ d + i)) 14 = t then 1 else 0) (2 ^ d) = sumN (fun i => if der (mths i) 14 = t ^^^ der (mths (2 ^ d)) 14 then 1 else 0) (2 ^ d) := sumN_congr _ fun i hi => by
      rw [add_xor d i hi, der_xorN _ _ 14 (by omega)]
      by_cases h : der (mths i) 14 = t ^^^ der (mths (2 ^ d)) 14
      · rw [if_pos h, if_pos ((xor_move _ _ _).2 h)]
      · rw [if_neg h, if_neg (fun hh => h ((xor_move _ _ _).1 hh))]
    rw [show 2 ^ (d + 1) = 2 ^ d + 2 ^ d by rw [Nat.pow_succ]; omega, sumN_split, e1, jd_at d t ht, jd_at d _ hx]
    have e2 : (jdL (d + 1))[t]? = some ((jdL d).getD t 0 + (jdL d).getD (t ^^^ der (mths (2 ^ d)) 14) 0) := by
      rw [jdL, List.getElem?_map, List.getElem?_range ht]
      rfl
    rw [List.getD_eq_getElem?_getD (l := jdL (d + 1)), e2]
    rfl
theorem jd_all : ∀ f : Fin 16, (jdL 16).getD f.1 0 = if onT f.1 4 % 2 = 1 then 0 else 8192 := by decide +kernel
theorem judge_cnt (f : Nat) (hf : f < 16) : sumN (fun n => if der (mths n) 14 = f then 1 else 0) 65536 = if onT f 4 % 2 = 1 then 0 else 8192 :=
  (jd_at 16 f hf).trans (jd_all ⟨f, hf⟩)
theorem bit_one (f x : Nat) (hf : f < 16) (hx : x < 16) : bitB (2 ^ f) x = decide (x = f) := by
  have : ∀ f x : Fin 16, bitB (2 ^ f.1) x.1 = decide (x.1 = f.1) := by decide +kernel
  exact this ⟨f, hf⟩ ⟨x, hx⟩
/-- A chart is meant where its figure at the place is, and all others are. -/
theorem okB_at (S : Nat → Nat) (p v n : Nat) (hp : p < 16) : okB (upN S p v) n = (bitB v (der (mths n) p) && okB (upN S p 65535) n) := by
  have hd : ∀ i, i < 16 → der (mths n) i < 16 := der_lt (mths n) (fun i _ => mths_lt n i)
  rw [Bool.eq_iff_iff, Bool.and_eq_true, okB_iff, okB_iff]
  constructor
  · intro h
    refine ⟨by simpa [upN] using h p hp, fun i hi => ?_⟩
    by_cases e : i = p
    · subst e
      simp only [upN, if_pos]; exact bit_every _ (hd i hi)
    · have := h i hi
      simp only [upN, if_neg e] at this ⊢; exact this
  · rintro ⟨h1, h2⟩ i hi
    by_cases e : i = p
    · subst e
      simp only [upN, if_pos]; exact h1
    · have := h2 i hi
      simp only [upN, if_neg e] at this ⊢; exact this
theorem judge_each (f : Nat) (hf : f < 16) : cntN (upN (fun _ => 65535) 14 (2 ^ f)) 65536 = if onT f 4 % 2 = 1 then 0 else 8192 := by
  rw [← judge_cnt f hf]
  refine sumN_congr _ fun n _ => ?_
  have hd : ∀ i, i < 16 → der (mths n) i < 16 := der_lt (mths n) (fun i _ => mths_lt n i)
  have ha : okB (upN (fun _ => 65535) 14 65535) n = true := (okB_iff _ _).2 fun i hi => by
    have : upN (fun _ => 65535) 14 65535 i = 65535 := by simp only [upN]; split <;> rfl
    rw [this]; exact bit_every _ (hd i hi)
  rw [okB_at _ 14 _ n (by omega), ha, Bool.and_true, bit_one f _ hf (hd 14 (by omega))]
  by_cases h : der (mths n) 14 = f
  · simp [h]
  · simp [h]
theorem quarter (x : Nat) (hx : x < 16) : (if bitB 15 x then 1 else 0) + (if bitB 240 x then 1 else 0) + (if bitB 3840 x then 1 else 0) + (if bitB 61440 x then 1 else 0) = 1 := by
  have : ∀ x : Fin 16, (if bitB 15 x.1 then 1 else 0) + (if bitB 240 x.1 then 1 else 0) + (if bitB 3840 x.1 then 1 else 0) + (if bitB 61440 x.1 then 1 else 0) = 1 := by decide +kernel
  exact this ⟨x, hx⟩
theorem if_and (a b : Bool) : (if (a && b) = true then 1 else 0) = (if a = true then (1 : Nat) else 0) * (if b = true then 1 else 0) := by cases a <;> cases b <;> rfl
theorem parts (S : Nat → Nat) (p : Nat) (hp : p < 16) : cntN (upN S p 65535) 65536 = cntN (upN S p 15) 65536 + cntN (upN S p 240) 65536 + cntN (upN S p 3840) 65536 + cntN (upN S p 61440) 65536 := by
  have e : ∀ v, cntN (upN S p v) 65536 = sumN (fun n => (if bitB v (der (mths n) p) = true then 1 else 0) * (if okB (upN S p 65535) n = true then 1 else 0)) 65536 := fun v => by
    refine sumN_congr _ fun n _ => ?_
    rw [okB_at S p v n hp, if_and]
  rw [e 15, e 240, e 3840, e 61440, ← sumN_add, ← sumN_add, ← sumN_add]
  refine sumN_congr _ fun n _ => ?_
  have hd : der (mths n) p < 16 := der_lt (mths n) (fun i _ => mths_lt n i) p hp
  have := quarter _ hd
  rw [← Nat.add_mul, ← Nat.add_mul, ← Nat.add_mul, this, Nat.one_mul]
theorem cntN_max (S : Nat → Nat) : ∀ n, cntN S n ≤ n
  | 0 => Nat.le_refl _
  | n + 1 => by
    have := cntN_max S n
    rw [cntN_succ]; split <;> omega
/-- What is told first is a chart that is meant. -/
theorem first_is (S : Nat → Nat) (h : cntN S 65536 ≠ 0) : ∃ m, m < 65536 ∧ okB S m = true ∧ fstN S 65536 = cst (mths m) := by
  have hp : 0 < cntL S gAll := by rw [cntL_cntN]; omega
  obtain ⟨h1, h2⟩ := (both S).1 hp
  exact ⟨_, h1, (leL_spec S hp).1, h2⟩
end Go.Proofs.YtphnibllfpkkkaaDoor
