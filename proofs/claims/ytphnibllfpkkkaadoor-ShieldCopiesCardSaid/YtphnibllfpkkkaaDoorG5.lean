/- The ones of a word, as Go counts them: plain Lean. -/
import Derived.Test.YtphnibllfpkkkaaDoorG1
import Derived.Test.YtphnibllfpkkkaaDoorG3
namespace Go.Proofs.YtphnibllfpkkkaaDoor
open Go Go.RowKit
set_option maxRecDepth 100000

theorem and_digit (x y i : Nat) : (x &&& y) / 2 ^ i % 16 = (x / 2 ^ i % 16) &&& (y / 2 ^ i % 16) := by
  rw [Nat.and_div_two_pow, show (16 : Nat) = 2 ^ 4 from rfl, Nat.and_mod_two_pow]
theorem pk_succ (F : Nat → Nat) (n : Nat) : pk F (n + 1) = pk F n + F n * 2 ^ (4 * n) := rfl
theorem pk_add (F G : Nat → Nat) : ∀ n, pk (fun i => F i + G i) n = pk F n + pk G n
  | 0 => rfl
  | n + 1 => by rw [pk, pk, pk, pk_add F G n, Nat.add_mul]; omega
theorem pk_16 (F : Nat → Nat) (hF : ∀ i, i < 16 → F i < 16) : pk F 16 < 18446744073709551616 := pk_lt F 16 hF 16 (Nat.le_refl _)
/-- A number with given digits. -/
theorem pk_is (x : Nat) (F : Nat → Nat) (hx : x < 18446744073709551616) (hF : ∀ i, i < 16 → F i < 16) (h : ∀ i, i < 16 → x / 2 ^ (4 * i) % 16 = F i) : x = pk F 16 :=
  digits_ext 16 x (pk F 16) hx (pk_16 F hF) fun i hi => by rw [h i hi, pk_digit F 16 hF 16 (Nat.le_refl _) i hi]
theorem and_le16 (a b : Nat) (h : a < 16) : a &&& b < 16 := Nat.lt_of_le_of_lt Nat.and_le_left h
/-- A word behind a shift and a mask. -/
theorem pk_mask (x : Nat) (hx : x < 18446744073709551616) (M : Nat) (c G : Nat → Nat) (hM : ∀ i, i < 16 → M / 2 ^ (4 * i) % 16 = c i) (hG : ∀ i, i < 16 → (x / 2 ^ (4 * i) % 16) &&& c i = G i) : x &&& M = pk G 16 := by
  refine pk_is _ _ (Nat.lt_of_le_of_lt Nat.and_le_left hx) (fun i hi => ?_) fun i hi => ?_
  · rw [← hG i hi]; exact and_le16 _ _ (Nat.mod_lt _ (by omega))
  · rw [and_digit, hM i hi, hG i hi]
theorem shift_digit (x s i : Nat) : x / 2 ^ s / 2 ^ (4 * i) % 16 = x / 2 ^ (4 * i) / 2 ^ s % 16 := by
  rw [Nat.div_div_eq_div_mul, Nat.div_div_eq_div_mul, Nat.mul_comm]
theorem low1 (y : Nat) : (y / 2 ^ 1 % 16) &&& 5 = (y % 16 / 2) &&& 5 := by
  have : ∀ z : Fin 32, (z.1 / 2 % 16) &&& 5 = (z.1 % 16 / 2) &&& 5 := by decide +kernel
  have h := this ⟨y % 32, Nat.mod_lt _ (by omega)⟩
  have e1 : y / 2 ^ 1 % 16 = y % 32 / 2 % 16 := by omega
  have e2 : y % 16 = y % 32 % 16 := by omega
  rw [e1, e2]; exact h
theorem low2 (y : Nat) : (y / 2 ^ 2 % 16) &&& 3 = (y % 16 / 4) &&& 3 := by
  have : ∀ z : Fin 64, (z.1 / 4 % 16) &&& 3 = (z.1 % 16 / 4) &&& 3 := by decide +kernel
  have h := this ⟨y % 64, Nat.mod_lt _ (by omega)⟩
  have e1 : y / 2 ^ 2 % 16 = y % 64 / 4 % 16 := by omega
  have e2 : y % 16 = y % 64 % 16 := by omega
  rw [e1, e2]; exact h
theorem m5 : ∀ i, i < 16 → 6148914691236517205 / 2 ^ (4 * i) % 16 = 5 := fun i hi => by
  have : ∀ i : Fin 16, 6148914691236517205 / 2 ^ (4 * i.1) % 16 = 5 := by decide +kernel
  exact this ⟨i, hi⟩
theorem m3 : ∀ i, i < 16 → 3689348814741910323 / 2 ^ (4 * i) % 16 = 3 := fun i hi => by
  have : ∀ i : Fin 16, 3689348814741910323 / 2 ^ (4 * i.1) % 16 = 3 := by decide +kernel
  exact this ⟨i, hi⟩
theorem m15 : ∀ i, i < 16 → 1085102592571150095 / 2 ^ (4 * i) % 16 = if i % 2 = 0 then 15 else 0 := fun i hi => by
  have : ∀ i : Fin 16, 1085102592571150095 / 2 ^ (4 * i.1) % 16 = if i.1 % 2 = 0 then 15 else 0 := by decide +kernel
  exact this ⟨i, hi⟩
def two (g : Nat) : Nat := ((g / 2) &&& 5) + (g &&& 5)
def four (g : Nat) : Nat := ((g / 4) &&& 3) + (g &&& 3)
theorem two_lt (g : Nat) (hg : g < 16) : two g < 16 := by
  have : ∀ g : Fin 16, two g.1 < 16 := by decide +kernel
  exact this ⟨g, hg⟩
theorem four_two (g : Nat) (hg : g < 16) : four (two g) = onT g 4 := by
  have : ∀ g : Fin 16, four (two g.1) = onT g.1 4 := by decide +kernel
  exact this ⟨g, hg⟩
/-- The steps. -/
def pop1 (x : Nat) : Nat := (x / 2 &&& 6148914691236517205) + (x &&& 6148914691236517205)
def pop2 (x : Nat) : Nat := (x / 4 &&& 3689348814741910323) + (x &&& 3689348814741910323)
def pop3 (x : Nat) : Nat := (x / 16 + x) &&& 1085102592571150095
def pop4 (x : Nat) : Nat := x + x / 256
def pop5 (x : Nat) : Nat := x + x / 65536
def pop6 (x : Nat) : Nat := x + x / 4294967296
def popN (x : Nat) : Nat := pop6 (pop5 (pop4 (pop3 (pop2 (pop1 x))))) % 128
theorem pop1_pk (F : Nat → Nat) (hF : ∀ i, i < 16 → F i < 16) : pop1 (pk F 16) = pk (fun i => two (F i)) 16 := by
  have hx := pk_16 F hF
  have hd := pk_digit F 16 hF 16 (Nat.le_refl _)
  unfold pop1
  rw [pk_mask (pk F 16 / 2) (by omega) _ (fun _ => 5) (fun i => (F i / 2) &&& 5) m5 (fun i hi => by
      have := shift_digit (pk F 16) 1 i
      rw [show pk F 16 / 2 = pk F 16 / 2 ^ 1 from rfl, this, low1, hd i hi]),
    pk_mask (pk F 16) hx _ (fun _ => 5) (fun i => F i &&& 5) m5 (fun i hi => by rw [hd i hi]), ← pk_add]
  rfl
theorem pop2_pk (F : Nat → Nat) (hF : ∀ i, i < 16 → F i < 16) : pop2 (pk F 16) = pk (fun i => four (F i)) 16 := by
  have hx := pk_16 F hF
  have hd := pk_digit F 16 hF 16 (Nat.le_refl _)
  unfold pop2
  rw [pk_mask (pk F 16 / 4) (by omega) _ (fun _ => 3) (fun i => (F i / 4) &&& 3) m3 (fun i hi => by
      have := shift_digit (pk F 16) 2 i
      rw [show pk F 16 / 4 = pk F 16 / 2 ^ 2 from rfl, this, low2, hd i hi]),
    pk_mask (pk F 16) hx _ (fun _ => 3) (fun i => F i &&& 3) m3 (fun i hi => by rw [hd i hi]), ← pk_add]
  rfl
theorem and15_id (a : Nat) (h : a < 16) : a &&& 15 = a := by
  have : ∀ a : Fin 16, a.1 &&& 15 = a.1 := by decide +kernel
  exact this ⟨a, h⟩
theorem pop3_pk (F : Nat → Nat) (hF : ∀ i, i < 16 → F i ≤ 4) : pop3 (pk F 16) = pk (fun i => if i % 2 = 0 then F (i + 1) + F i else 0) 16 := by
  have hF' : ∀ i, i < 16 → F i < 16 := fun i hi => by have := hF i hi; omega
  have hx := pk_16 F hF'
  have hd := pk_digit F 16 hF' 16 (Nat.le_refl _)
  have e : pk F 16 / 16 = pk (fun i => if i < 15 then F (i + 1) else 0) 16 := by
    refine pk_is _ _ (by omega) (fun i hi => ?_) fun i hi => ?_
    · show (if i < 15 then F (i + 1) else 0) < 16
      split
      · exact hF' _ (by omega)
      · omega
    · show _ = if i < 15 then F (i + 1) else 0
      rw [show (16 : Nat) = 2 ^ 4 from rfl, Nat.div_div_eq_div_mul, ← Nat.pow_add, show 4 + 4 * i = 4 * (i + 1) by omega]
      split
      · exact hd (i + 1) (by omega)
      · obtain rfl : i = 15 := by omega
        rw [Nat.div_eq_of_lt (show pk F 16 < 2 ^ (4 * (15 + 1)) from hx)]
  unfold pop3
  have hS : ∀ i, i < 16 → (if i < 15 then F (i + 1) else 0) + F i < 16 := fun i hi => by
    have := hF i hi
    split
    · have := hF (i + 1) (by omega); omega
    · omega
  rw [e, ← pk_add]
  refine pk_mask _ (pk_16 _ hS) _ _ _ m15 fun i hi => ?_
  rw [pk_digit _ 16 hS 16 (Nat.le_refl _) i hi]
  by_cases h : i % 2 = 0
  · rw [if_pos h, if_pos h, and15_id _ (hS i hi), if_pos (by omega)]
  · rw [if_neg h, if_neg h, Nat.and_zero]
theorem mod_low (T Q X : Nat) (h : X = T + 256 * Q) (hT : T ≤ 64) : X % 128 = T := by omega
theorem pop_end (b0 b1 b2 b3 b4 b5 b6 b7 x : Nat) (h0 : b0 ≤ 8) (h1 : b1 ≤ 8) (h2 : b2 ≤ 8) (h3 : b3 ≤ 8) (h4 : b4 ≤ 8) (h5 : b5 ≤ 8) (h6 : b6 ≤ 8) (h7 : b7 ≤ 8)
    (hx : x = b0 + b1 * 256 + b2 * 65536 + b3 * 16777216 + b4 * 4294967296 + b5 * 1099511627776 + b6 * 281474976710656 + b7 * 72057594037927936) :
    x < 4611686018427387904 ∧ pop4 x < 4611686018427387904 ∧ pop5 (pop4 x) < 4611686018427387904 ∧ pop6 (pop5 (pop4 x)) < 4611686018427387904 ∧ pop6 (pop5 (pop4 x)) % 128 = b0 + b1 + b2 + b3 + b4 + b5 + b6 + b7 := by
  have e4 : pop4 x = (b0 + b1) + (b1 + b2) * 256 + (b2 + b3) * 65536 + (b3 + b4) * 16777216 + (b4 + b5) * 4294967296 + (b5 + b6) * 1099511627776 + (b6 + b7) * 281474976710656 + b7 * 72057594037927936 := by
    unfold pop4; omega
  have e5 : pop5 (pop4 x) = (b0 + b1 + b2 + b3) + (b1 + b2 + b3 + b4) * 256 + (b2 + b3 + b4 + b5) * 65536 + (b3 + b4 + b5 + b6) * 16777216 + (b4 + b5 + b6 + b7) * 4294967296 + (b5 + b6 + b7) * 1099511627776 + (b6 + b7) * 281474976710656 + b7 * 72057594037927936 := by
    rw [e4]; unfold pop5; omega
  have e6 : pop6 (pop5 (pop4 x)) = (b0 + b1 + b2 + b3 + b4 + b5 + b6 + b7) + (b1 + b2 + b3 + b4 + b5 + b6 + b7) * 256 + (b2 + b3 + b4 + b5 + b6 + b7) * 65536 + (b3 + b4 + b5 + b6 + b7) * 16777216 + (b4 + b5 + b6 + b7) * 4294967296 + (b5 + b6 + b7) * 1099511627776 + (b6 + b7) * 281474976710656 + b7 * 72057594037927936 := by
    rw [e5]; unfold pop6; omega
  refine ⟨?_, ?_, ?_, ?_, ?_⟩
  · omega
  · rw [e4]; omega
  · rw [e5]; omega
  · rw [e6]; omega
  · exact mod_low _ ((b1 + b2 + b3 + b4 + b5 + b6 + b7) + (b2 + b3 + b4 + b5 + b6 + b7) * 256 + (b3 + b4 + b5 + b6 + b7) * 65536 + (b4 + b5 + b6 + b7) * 16777216 + (b5 + b6 + b7) * 4294967296 + (b6 + b7) * 1099511627776 + b7 * 281474976710656) _ (by rw [e6]; omega) (by omega)
/-- The ones of all digits. -/
def wtF (F : Nat → Nat) : Nat := sumN (fun i => onT (F i) 4) 16
theorem onT_le4 (g : Nat) (hg : g < 16) : onT g 4 ≤ 4 := by
  have : ∀ g : Fin 16, onT g.1 4 ≤ 4 := by decide +kernel
  exact this ⟨g, hg⟩
/-- All steps, with their bounds. -/
theorem pk_16e (G : Nat → Nat) : pk G 16 = G 0 + G 1 * 16 + G 2 * 256 + G 3 * 4096 + G 4 * 65536 + G 5 * 1048576 + G 6 * 16777216 + G 7 * 268435456 + G 8 * 4294967296 + G 9 * 68719476736 + G 10 * 1099511627776 + G 11 * 17592186044416 + G 12 * 281474976710656 + G 13 * 4503599627370496 + G 14 * 72057594037927936 + G 15 * 1152921504606846976 := by
  have e0 : pk G 1 = pk G 0 + G 0 * 1 := pk_succ G 0
  have e1 : pk G 2 = pk G 1 + G 1 * 16 := pk_succ G 1
  have e2 : pk G 3 = pk G 2 + G 2 * 256 := pk_succ G 2
  have e3 : pk G 4 = pk G 3 + G 3 * 4096 := pk_succ G 3
  have e4 : pk G 5 = pk G 4 + G 4 * 65536 := pk_succ G 4
  have e5 : pk G 6 = pk G 5 + G 5 * 1048576 := pk_succ G 5
  have e6 : pk G 7 = pk G 6 + G 6 * 16777216 := pk_succ G 6
  have e7 : pk G 8 = pk G 7 + G 7 * 268435456 := pk_succ G 7
  have e8 : pk G 9 = pk G 8 + G 8 * 4294967296 := pk_succ G 8
  have e9 : pk G 10 = pk G 9 + G 9 * 68719476736 := pk_succ G 9
  have e10 : pk G 11 = pk G 10 + G 10 * 1099511627776 := pk_succ G 10
  have e11 : pk G 12 = pk G 11 + G 11 * 17592186044416 := pk_succ G 11
  have e12 : pk G 13 = pk G 12 + G 12 * 281474976710656 := pk_succ G 12
  have e13 : pk G 14 = pk G 13 + G 13 * 4503599627370496 := pk_succ G 13
  have e14 : pk G 15 = pk G 14 + G 14 * 72057594037927936 := pk_succ G 14
  have e15 : pk G 16 = pk G 15 + G 15 * 1152921504606846976 := pk_succ G 15
  have e : pk G 0 = 0 := rfl
  omega
theorem pk_even (H : Nat → Nat) : pk (fun i => if i % 2 = 0 then H (i + 1) + H i else 0) 16 = (H 1 + H 0) + (H 3 + H 2) * 256 + (H 5 + H 4) * 65536 + (H 7 + H 6) * 16777216 + (H 9 + H 8) * 4294967296 + (H 11 + H 10) * 1099511627776 + (H 13 + H 12) * 281474976710656 + (H 15 + H 14) * 72057594037927936 := by
  generalize hG : (fun i => if i % 2 = 0 then H (i + 1) + H i else 0) = G
  have g0 : G 0 = H 1 + H 0 := by rw [← hG]; rfl
  have g1 : G 1 = 0 := by rw [← hG]; rfl
  have g2 : G 2 = H 3 + H 2 := by rw [← hG]; rfl
  have g3 : G 3 = 0 := by rw [← hG]; rfl
  have g4 : G 4 = H 5 + H 4 := by rw [← hG]; rfl
  have g5 : G 5 = 0 := by rw [← hG]; rfl
  have g6 : G 6 = H 7 + H 6 := by rw [← hG]; rfl
  have g7 : G 7 = 0 := by rw [← hG]; rfl
  have g8 : G 8 = H 9 + H 8 := by rw [← hG]; rfl
  have g9 : G 9 = 0 := by rw [← hG]; rfl
  have g10 : G 10 = H 11 + H 10 := by rw [← hG]; rfl
  have g11 : G 11 = 0 := by rw [← hG]; rfl
  have g12 : G 12 = H 13 + H 12 := by rw [← hG]; rfl
  have g13 : G 13 = 0 := by rw [← hG]; rfl
  have g14 : G 14 = H 15 + H 14 := by rw [← hG]; rfl
  have g15 : G 15 = 0 := by rw [← hG]; rfl
  rw [pk_16e, g0, g1, g2, g3, g4, g5, g6, g7, g8, g9, g10, g11, g12, g13, g14, g15]
  clear hG g0 g1 g2 g3 g4 g5 g6 g7 g8 g9 g10 g11 g12 g13 g14 g15
  omega
set_option maxHeartbeats 400000 in
theorem pops (F : Nat → Nat) (hF : ∀ i, i < 16 → F i < 16) :
    (pk F 16 < 18446744073709551616 ∧ pop1 (pk F 16) < 18446744073709551616 ∧ pop2 (pop1 (pk F 16)) < 18446744073709551616 ∧ pop3 (pop2 (pop1 (pk F 16))) < 4611686018427387904 ∧ pop4 (pop3 (pop2 (pop1 (pk F 16)))) < 4611686018427387904 ∧
    pop5 (pop4 (pop3 (pop2 (pop1 (pk F 16))))) < 4611686018427387904 ∧ pop6 (pop5 (pop4 (pop3 (pop2 (pop1 (pk F 16)))))) < 4611686018427387904) ∧ pop2 (pop1 (pk F 16)) < 9223372036854775808 ∧ popN (pk F 16) = wtF F := by
  have h1 := pop1_pk F hF
  have h2 := pop2_pk _ (fun i hi => two_lt (F i) (hF i hi))
  have e2 : pop2 (pop1 (pk F 16)) = pk (fun i => onT (F i) 4) 16 := by
    rw [h1, h2]
    exact pk_congr 16 fun i hi => four_two (F i) (hF i hi)
  have hle : ∀ i, i < 16 → onT (F i) 4 ≤ 4 := fun i hi => onT_le4 _ (hF i hi)
  have h3 := pop3_pk _ hle
  rw [← e2] at h3
  have hx := pk_even (fun i => onT (F i) 4)
  have q : ∀ i, i < 15 → onT (F (i + 1)) 4 + onT (F i) 4 ≤ 8 := fun i hi => by
    have := hle i (by omega)
    have := hle (i + 1) (by omega)
    omega
  rw [hx] at h3
  obtain ⟨q3, q4, q5, q6, q7⟩ := pop_end _ _ _ _ _ _ _ _ _ (q 0 (by omega)) (q 2 (by omega)) (q 4 (by omega)) (q 6 (by omega)) (q 8 (by omega)) (q 10 (by omega)) (q 12 (by omega)) (q 14 (by omega)) h3
  have b1 := pk_16 _ (fun i hi => two_lt (F i) (hF i hi))
  have b2 := pk_16 (fun i => onT (F i) 4) (fun i hi => by have := hle i hi; omega)
  have b2' : pk (fun i => onT (F i) 4) 16 < 9223372036854775808 := by
    have h15 := pk_lt (fun i => onT (F i) 4) 16 (fun i hi => by have := hle i hi; omega) 15 (by omega)
    have := hle 15 (by omega)
    have e : pk (fun i => onT (F i) 4) 16 = pk (fun i => onT (F i) 4) 15 + onT (F 15) 4 * 2 ^ (4 * 15) := pk_succ _ 15
    rw [e]
    simp only [Nat.reduceMul, Nat.reducePow] at h15 ⊢
    omega
  rw [← h1] at b1
  rw [← e2] at b2 b2'
  refine ⟨⟨pk_16 F hF, b1, b2, q3, q4, q5, q6⟩, b2', ?_⟩
  unfold popN
  rw [q7]
  simp only [wtF, sumN, Nat.reduceAdd]
  clear q3 q4 q5 q6 q7 h3 hx h1 h2 e2 b1 b2 b2' q
  omega
end Go.Proofs.YtphnibllfpkkkaaDoor
/- Two charts differ in at least six marks; the nearest charts: plain Lean. -/
namespace Go.Proofs.YtphnibllfpkkkaaDoor
open Go Go.RowKit
set_option maxRecDepth 100000

/-- The words of single marks of mothers. -/
def basis : Nat → List Nat
  | 0 => []
  | d + 1 => word (2 ^ d) :: basis d
/-- A test at all sums of words. -/
def allX (p : Nat → Bool) : List Nat → Nat → Bool
  | [], a => p a
  | b :: l, a => allX p l a && allX p l (a ^^^ b)
theorem allX_at (p : Nat → Bool) : ∀ d a, allX p (basis d) a = true → ∀ n, n < 2 ^ d → p (a ^^^ word n) = true
  | 0, a, h, n, hn => by
    obtain rfl : n = 0 := by have : (2 : Nat) ^ 0 = 1 := rfl; omega
    rw [word_zero, Nat.xor_zero]; exact h
  | d + 1, a, h, n, hn => by
    have h' : (allX p (basis d) a && allX p (basis d) (a ^^^ word (2 ^ d))) = true := h
    rw [Bool.and_eq_true] at h'
    rw [Nat.pow_succ] at hn
    by_cases hl : n < 2 ^ d
    · exact allX_at p d a h'.1 n hl
    · obtain ⟨m, rfl⟩ : ∃ m, n = 2 ^ d + m := ⟨n - 2 ^ d, by omega⟩
      have hm : m < 2 ^ d := by omega
      have := allX_at p d _ h'.2 m hm
      rw [Nat.xor_assoc] at this
      rw [add_xor d m hm, word_xor, Nat.xor_comm (word m)]
      exact this
def far (x : Nat) : Bool := x == 0 || Nat.ble 6 (popN x)
theorem basis_lit : basis 16 = [1808212877203472392, 1518856583713390596, 1374161944404033538, 1157707683017588737, 12261085204784873600, 7360042892615745600, 9572356823449632, 3684228173484130320, 14720086301634201600, 19210942105519104, 7368456475821212160, 6143195833476317440, 38421886224334848, 14737044893163601920, 12286391666960506880, 11061131024611676160] := by decide +kernel
theorem far_all : allX far [1808212877203472392, 1518856583713390596, 1374161944404033538, 1157707683017588737, 12261085204784873600, 7360042892615745600, 9572356823449632, 3684228173484130320, 14720086301634201600, 19210942105519104, 7368456475821212160, 6143195833476317440, 38421886224334848, 14737044893163601920, 12286391666960506880, 11061131024611676160] 0 = true := by decide +kernel
theorem far_word (n : Nat) (hn : n < 65536) : far (word n) = true := by
  have h := allX_at far 16 0 (by rw [basis_lit]; exact far_all) n hn
  rw [Nat.zero_xor] at h; exact h
theorem word_ne (n : Nat) (hn : n < 65536) (h : word n = 0) : n = 0 := by
  have h1 : ∀ i, i < 4 → mths n i = 0 := fun i hi => by
    have := word_digit n i (by omega)
    rw [h, Nat.zero_div, der_lo _ i hi] at this
    exact this.symm
  have h2 := num_mths n hn
  simp only [num, h1 0 (by omega), h1 1 (by omega), h1 2 (by omega), h1 3 (by omega)] at h2
  omega
theorem wt_min (n : Nat) (hn : n < 65536) (h0 : n ≠ 0) : 6 ≤ wtF (der (mths n)) := by
  have hlt : ∀ i, i < 16 → der (mths n) i < 16 := der_lt (mths n) (fun i _ => mths_lt n i)
  have h := far_word n hn
  simp only [far, Bool.or_eq_true, beq_iff_eq] at h
  rcases h with h | h
  · exact absurd (word_ne n hn h) h0
  · have := Nat.le_of_ble_eq_true h
    rw [← (pops _ hlt).2.2]; exact this
/-- In how many marks two copies differ. -/
def dist (F G : Nat → Nat) : Nat := wtF (fun i => F i ^^^ G i)
theorem dist_charts (a b : Nat) (ha : a < 65536) (hb : b < 65536) (hab : a ≠ b) : 6 ≤ dist (der (mths a)) (der (mths b)) := by
  have hx : a ^^^ b < 65536 := Nat.xor_lt_two_pow (n := 16) ha hb
  have hne : a ^^^ b ≠ 0 := fun h => hab (by rw [(xor_move a b 0).1 h, Nat.zero_xor])
  have h := wt_min _ hx hne
  have e : dist (der (mths a)) (der (mths b)) = wtF (der (mths (a ^^^ b))) := sumN_congr 16 fun i hi => by rw [der_xorN a b i hi]
  rw [e]; exact h
theorem sumN_le {f g : Nat → Nat} : ∀ n, (∀ i, i < n → f i ≤ g i) → sumN f n ≤ sumN g n
  | 0, _ => Nat.le_refl _
  | n + 1, h => by
    have h1 := sumN_le n (fun i hi => h i (by omega))
    have h2 := h n (by omega)
    rw [sumN, sumN]; omega
theorem onT_tri (a b : Nat) (ha : a < 16) (hb : b < 16) : onT (a ^^^ b) 4 ≤ onT a 4 + onT b 4 := by
  have : ∀ a b : Fin 16, onT (a.1 ^^^ b.1) 4 ≤ onT a.1 4 + onT b.1 4 := by decide +kernel
  exact this ⟨a, ha⟩ ⟨b, hb⟩
theorem x4 (a b : Nat) (ha : a < 16) (hb : b < 16) : a ^^^ b < 16 := Nat.xor_lt_two_pow (n := 4) ha hb
theorem dist_tri (F G H : Nat → Nat) (hF : ∀ i, i < 16 → F i < 16) (hG : ∀ i, i < 16 → G i < 16) (hH : ∀ i, i < 16 → H i < 16) : dist F H ≤ dist F G + dist G H := by
  unfold dist wtF
  rw [← sumN_add]
  refine sumN_le 16 fun i hi => ?_
  show onT (F i ^^^ H i) 4 ≤ onT (F i ^^^ G i) 4 + onT (G i ^^^ H i) 4
  have e : F i ^^^ H i = (F i ^^^ G i) ^^^ (G i ^^^ H i) := by
    rw [Nat.xor_assoc, ← Nat.xor_assoc (G i), Nat.xor_self, Nat.zero_xor]
  rw [e]
  exact onT_tri _ _ (x4 _ _ (hF i hi) (hG i hi)) (x4 _ _ (hG i hi) (hH i hi))
theorem dist_comm (F G : Nat → Nat) : dist F G = dist G F := sumN_congr 16 fun i _ => by show onT (F i ^^^ G i) 4 = onT (G i ^^^ F i) 4; rw [Nat.xor_comm]
theorem onT_zero (x : Nat) (hx : x < 16) : onT x 4 = 0 ↔ x = 0 := by
  have : ∀ x : Fin 16, onT x.1 4 = 0 ↔ x.1 = 0 := by decide +kernel
  exact this ⟨x, hx⟩
theorem sumN_eq0 {f : Nat → Nat} : ∀ n, sumN f n = 0 ↔ ∀ i, i < n → f i = 0
  | 0 => ⟨fun _ i hi => by omega, fun _ => rfl⟩
  | n + 1 => by
    rw [sumN]
    constructor
    · intro h i hi
      by_cases e : i = n
      · subst e; omega
      · exact (sumN_eq0 n).1 (by omega) i (by omega)
    · intro h
      have h1 := (sumN_eq0 (f := f) n).2 fun i hi => h i (by omega)
      have h2 := h n (by omega)
      omega
theorem dist_zero (F G : Nat → Nat) (hF : ∀ i, i < 16 → F i < 16) (hG : ∀ i, i < 16 → G i < 16) : dist F G = 0 ↔ ∀ i, i < 16 → F i = G i := by
  unfold dist wtF
  rw [sumN_eq0]
  constructor
  · intro h i hi
    have := (onT_zero _ (x4 _ _ (hF i hi) (hG i hi))).1 (h i hi)
    rw [(xor_move _ _ _).1 this, Nat.zero_xor]
  · intro h i hi
    show onT (F i ^^^ G i) 4 = 0
    rw [h i hi, Nat.xor_self]
    rfl
theorem dist_le (F G : Nat → Nat) (hF : ∀ i, i < 16 → F i < 16) (hG : ∀ i, i < 16 → G i < 16) : dist F G ≤ 64 := by
  have h : sumN (fun i => onT (F i ^^^ G i) 4) 16 ≤ sumN (fun _ => 4) 16 := sumN_le 16 fun i hi => onT_le4 _ (x4 _ _ (hF i hi) (hG i hi))
  have e : sumN (fun _ => 4) 16 = 64 := by simp [sumN]
  have e2 : dist F G = sumN (fun i => onT (F i ^^^ G i) 4) 16 := rfl
  omega
/-- The best of a list of numbers: how far, how many, which is least. -/
structure Best (D : Nat → Nat) (n m c l : Nat) : Prop where
  low : ∀ k, k < n → m ≤ D k
  at1 : l < n
  at2 : D l = m
  least : ∀ k, k < n → D k = m → l ≤ k
  count : c = sumN (fun k => if D k = m then 1 else 0) n
theorem Best.uniq {D : Nat → Nat} {n m c l m' c' l' : Nat} (h : Best D n m c l) (k : Best D n m' c' l') : m = m' ∧ c = c' ∧ l = l' := by
  have h1 := h.low _ k.at1
  have h2 := k.low _ h.at1
  rw [k.at2] at h1
  rw [h.at2] at h2
  obtain rfl : m = m' := by omega
  have h3 := h.least _ k.at1 k.at2
  have h4 := k.least _ h.at1 h.at2
  exact ⟨rfl, h.count.trans k.count.symm, by omega⟩
/-- One step of the search over the numbers in order; over Gray's. -/
def rstep (d n : Nat) (s : Nat × Nat × Nat) : Nat × Nat × Nat := if d < s.1 then (d, 1, n) else if d = s.1 then (s.1, s.2.1 + 1, s.2.2) else s
def rst (D : Nat → Nat) : Nat → Nat × Nat × Nat
  | 0 => (65, 0, 0)
  | n + 1 => rstep (D n) n (rst D n)
def mstep (d n : Nat) (s : Nat × Nat × Nat) : Nat × Nat × Nat := if d < s.1 then (d, 1, n) else if d = s.1 then (s.1, s.2.1 + 1, min s.2.2 n) else s
def mL (D : Nat → Nat) (l : List Nat) : Nat × Nat × Nat := l.foldl (fun s x => mstep (D (gr x)) (gr x) s) (65, 0, 0)
theorem mL_snoc (D : Nat → Nat) (l : List Nat) (x : Nat) : mL D (l ++ [x]) = mstep (D (gr x)) (gr x) (mL D l) := by
  unfold mL; rw [List.foldl_append]; rfl
theorem mF_le (D : Nat → Nat) : ∀ (l : List Nat) (s : Nat × Nat × Nat), s.1 ≤ 65 → (l.foldl (fun s x => mstep (D (gr x)) (gr x) s) s).1 ≤ 65 ∧ (l.foldl (fun s x => mstep (D (gr x)) (gr x) s) s).2.1 ≤ s.2.1 + l.length
  | [], s, h => ⟨h, by simp⟩
  | y :: l, s, h => by
    have key : (mstep (D (gr y)) (gr y) s).1 ≤ 65 ∧ (mstep (D (gr y)) (gr y) s).2.1 ≤ s.2.1 + 1 := by
      unfold mstep
      split
      · exact ⟨by simp only; omega, by simp⟩
      · split
        · exact ⟨h, by simp⟩
        · exact ⟨h, by simp⟩
    obtain ⟨h1, h2⟩ := mF_le D l _ key.1
    rw [List.foldl_cons]
    refine ⟨h1, ?_⟩
    rw [List.length_cons]; omega
theorem mL_le (D : Nat → Nat) (l : List Nat) : (mL D l).1 ≤ 65 ∧ (mL D l).2.1 ≤ l.length := by
  have := mF_le D l (65, 0, 0) (Nat.le_refl _)
  exact ⟨this.1, by have := this.2; simp only [Nat.zero_add] at this; exact this⟩
theorem sumN_none {f : Nat → Nat} {n : Nat} (h : ∀ i, i < n → f i = 0) : sumN f n = 0 := (sumN_eq0 n).2 h
/-- The search in order finds the best. -/
theorem rst_best (D : Nat → Nat) (hD : ∀ k, D k ≤ 64) : ∀ n, Best D (n + 1) (rst D (n + 1)).1 (rst D (n + 1)).2.1 (rst D (n + 1)).2.2
  | 0 => by
    have e : rst D 1 = (D 0, 1, 0) := by
      show rstep (D 0) 0 (65, 0, 0) = _
      unfold rstep
      rw [if_pos (show D 0 < 65 by have := hD 0; omega)]
    rw [e]
    refine ⟨fun k hk => ?_, by show 0 < 1; omega, rfl, fun k hk _ => Nat.zero_le _, ?_⟩
    · obtain rfl : k = 0 := by omega
      exact Nat.le_refl _
    · simp [sumN]
  | n + 1 => by
    have ih := rst_best D hD n
    have e : rst D (n + 1 + 1) = rstep (D (n + 1)) (n + 1) (rst D (n + 1)) := rfl
    rw [e]
    generalize rst D (n + 1) = s at *
    obtain ⟨m, c, l⟩ := s
    simp only at ih
    unfold rstep
    simp only
    by_cases h1 : D (n + 1) < m
    · rw [if_pos h1]
      simp only
      refine ⟨fun k hk => ?_, by omega, rfl, fun k hk e => ?_, ?_⟩
      · by_cases ek : k = n + 1
        · subst ek; exact Nat.le_refl _
        · have := ih.low k (by omega); omega
      · by_cases ek : k = n + 1
        · omega
        · have := ih.low k (by omega); omega
      · rw [sumN, if_pos rfl, sumN_none (fun k hk => by rw [if_neg]; have := ih.low k hk; omega)]
    · rw [if_neg h1]
      by_cases h2 : D (n + 1) = m
      · rw [if_pos h2]
        simp only
        refine ⟨fun k hk => ?_, by have := ih.at1; omega, ih.at2, fun k hk e => ?_, ?_⟩
        · by_cases ek : k = n + 1
          · subst ek; omega
          · exact ih.low k (by omega)
        · by_cases ek : k = n + 1
          · subst ek; have := ih.at1; omega
          · exact ih.least k (by omega) e
        · rw [sumN, if_pos h2, ← ih.count]
      · rw [if_neg h2]
        simp only
        refine ⟨fun k hk => ?_, by have := ih.at1; omega, ih.at2, fun k hk e => ?_, ?_⟩
        · by_cases ek : k = n + 1
          · subst ek; omega
          · exact ih.low k (by omega)
        · by_cases ek : k = n + 1
          · subst ek; exact absurd e h2
          · exact ih.least k (by omega) e
        · rw [sumN, if_neg h2, ← ih.count]; rfl
/-- .. so does the search in Gray's order. -/
structure BestG (D : Nat → Nat) (n m c l : Nat) : Prop where
  low : ∀ k, k < n → m ≤ D (gr k)
  at1 : ∃ k, k < n ∧ gr k = l ∧ D l = m
  least : ∀ k, k < n → D (gr k) = m → l ≤ gr k
  count : c = sumN (fun k => if D (gr k) = m then 1 else 0) n
theorem mst_best (D : Nat → Nat) (hD : ∀ k, D k ≤ 64) : ∀ n, BestG D (n + 1) (mL D (List.range (n + 1))).1 (mL D (List.range (n + 1))).2.1 (mL D (List.range (n + 1))).2.2
  | 0 => by
    have e : mL D (List.range 1) = (D (gr 0), 1, gr 0) := by
      show mstep (D (gr 0)) (gr 0) (65, 0, 0) = _
      unfold mstep
      rw [if_pos (show D (gr 0) < 65 by have := hD (gr 0); omega)]
    rw [e]
    refine ⟨fun k hk => ?_, ⟨0, by omega, rfl, rfl⟩, fun k hk _ => ?_, ?_⟩
    · obtain rfl : k = 0 := by omega
      exact Nat.le_refl _
    · obtain rfl : k = 0 := by omega
      exact Nat.le_refl _
    · simp [sumN]
  | n + 1 => by
    have ih := mst_best D hD n
    have e : mL D (List.range (n + 1 + 1)) = mstep (D (gr (n + 1))) (gr (n + 1)) (mL D (List.range (n + 1))) := by rw [range_snoc (n + 1), mL_snoc]
    rw [e]
    generalize mL D (List.range (n + 1)) = s at *
    obtain ⟨m, c, l⟩ := s
    simp only at ih
    unfold mstep
    simp only
    obtain ⟨k0, hk0, ek0, dk0⟩ := ih.at1
    by_cases h1 : D (gr (n + 1)) < m
    · rw [if_pos h1]
      simp only
      refine ⟨fun k hk => ?_, ⟨n + 1, by omega, rfl, rfl⟩, fun k hk e => ?_, ?_⟩
      · by_cases ek : k = n + 1
        · subst ek; exact Nat.le_refl _
        · have := ih.low k (by omega); omega
      · by_cases ek : k = n + 1
        · subst ek; exact Nat.le_refl _
        · have := ih.low k (by omega); omega
      · rw [sumN, if_pos rfl, sumN_none (fun k hk => by rw [if_neg]; have := ih.low k hk; omega)]
    · rw [if_neg h1]
      by_cases h2 : D (gr (n + 1)) = m
      · rw [if_pos h2]
        simp only
        refine ⟨fun k hk => ?_, ?_, fun k hk e => ?_, ?_⟩
        · by_cases ek : k = n + 1
          · subst ek; omega
          · exact ih.low k (by omega)
        · by_cases hm : l ≤ gr (n + 1)
          · exact ⟨k0, by omega, by rw [ek0]; omega, by rw [show min l (gr (n + 1)) = l by omega]; exact dk0⟩
          · exact ⟨n + 1, by omega, by omega, by rw [show min l (gr (n + 1)) = gr (n + 1) by omega]; exact h2⟩
        · by_cases ek : k = n + 1
          · subst ek; omega
          · have := ih.least k (by omega) e; omega
        · rw [sumN, if_pos h2, ← ih.count]
      · rw [if_neg h2]
        simp only
        refine ⟨fun k hk => ?_, ⟨k0, by omega, ek0, dk0⟩, fun k hk e => ?_, ?_⟩
        · by_cases ek : k = n + 1
          · subst ek; omega
          · exact ih.low k (by omega)
        · by_cases ek : k = n + 1
          · subst ek; exact absurd e h2
          · exact ih.least k (by omega) e
        · rw [sumN, if_neg h2, ← ih.count]; rfl
theorem mL_all (D : Nat → Nat) (hD : ∀ k, D k ≤ 64) : Best D 65536 (mL D gAll).1 (mL D gAll).2.1 (mL D gAll).2.2 := by
  have h := mst_best D hD 65535
  have e : mL D gAll = mL D (List.range (65535 + 1)) := rfl
  rw [e]
  generalize mL D (List.range (65535 + 1)) = s at *
  obtain ⟨m, c, l⟩ := s
  simp only at h ⊢
  obtain ⟨k0, hk0, ek0, dk0⟩ := h.at1
  refine ⟨fun k hk => ?_, by rw [← ek0]; exact (gray_at k0 (by omega)).1, dk0, fun k hk e => ?_, ?_⟩
  · obtain ⟨_, g2, _, g4, _⟩ := gray_at k hk
    have := h.low (ungr k) (by omega)
    rw [g4] at this; exact this
  · obtain ⟨_, g2, _, g4, _⟩ := gray_at k hk
    have := h.least (ungr k) (by omega) (by rw [g4]; exact e)
    rw [g4] at this; exact this
  · rw [h.count]
    exact sumN_gr (fun k => if D k = m then 1 else 0)
/-- Both searches. -/
theorem rst_mL (D : Nat → Nat) (hD : ∀ k, D k ≤ 64) (N : Nat) (hN : 65536 = N) : Best D N (rst D N).1 (rst D N).2.1 (rst D N).2.2 ∧ mL D gAll = rst D N := by
  obtain ⟨M, hM⟩ : ∃ M : Nat, N = M + 1 := ⟨N - 1, by omega⟩
  have h1 : Best D N (rst D N).1 (rst D N).2.1 (rst D N).2.2 := by rw [hM]; exact rst_best D hD M
  have h2 := mL_all D hD
  rw [hN] at h2
  obtain ⟨e1, e2, e3⟩ := h2.uniq h1
  exact ⟨h1, Prod.ext e1 (Prod.ext e2 e3)⟩
end Go.Proofs.YtphnibllfpkkkaaDoor
