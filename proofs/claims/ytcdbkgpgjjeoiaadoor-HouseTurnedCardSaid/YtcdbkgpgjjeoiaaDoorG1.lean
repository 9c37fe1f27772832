/- Gray's order of the numbers of charts; the facts of all of it by the kernel. -/
import Derived.Test.YtcdbkgpgjjeoiaaDoorV9
namespace Go.Proofs.YtcdbkgpgjjeoiaaDoor
open Go Go.RowKit
set_option maxRecDepth 100000

/-- A test at 2^d numbers from a on. -/
def allB (p : Nat → Bool) (d : Nat) : Nat → Bool := Nat.rec (motive := fun _ => Nat → Bool) (fun a => p a) (fun d ih a => ih a && ih (a + 2 ^ d)) d
theorem allB_at (p : Nat → Bool) : ∀ d a, allB p d a = true → ∀ i, a ≤ i → i < a + 2 ^ d → p i = true
  | 0, a, h, i, h1, h2 => by
    obtain rfl : i = a := by have : (2 : Nat) ^ 0 = 1 := rfl; omega
    exact h
  | d + 1, a, h, i, h1, h2 => by
    have h' : (allB p d a && allB p d (a + 2 ^ d)) = true := h
    rw [Bool.and_eq_true] at h'
    rw [Nat.pow_succ] at h2
    by_cases hi : i < a + 2 ^ d
    · exact allB_at p d a h'.1 i h1 hi
    · exact allB_at p d (a + 2 ^ d) h'.2 i (by omega) (by omega)

/-- The number at a place of Gray's order. -/
def gr (i : Nat) : Nat := i ^^^ i / 2
def lowBit (i : Nat) : Nat := i &&& (18446744073709551616 - i)
def tz (i : Nat) : Nat := Nat.log2 (lowBit i)
/-- The place of a number in Gray's order. -/
def ungr (n : Nat) : Nat :=
  let a := n ^^^ n / 2
  let b := a ^^^ a / 4
  let c := b ^^^ b / 16
  c ^^^ c / 256
def grayOk (i : Nat) : Bool := gr i < 65536 && ungr i < 65536 && ungr (gr i) == i && gr (ungr i) == i && (i == 0 || (2 ^ tz i == lowBit i && tz i < 16 && gr (i - 1) ^^^ 2 ^ tz i == gr i))
theorem gray_all : allB grayOk 16 0 = true := by decide +kernel
theorem gray_at (i : Nat) (hi : i < 65536) : gr i < 65536 ∧ ungr i < 65536 ∧ ungr (gr i) = i ∧ gr (ungr i) = i ∧ (0 < i → 2 ^ tz i = lowBit i ∧ tz i < 16 ∧ gr (i - 1) ^^^ 2 ^ tz i = gr i) := by
  have h := allB_at grayOk 16 0 gray_all i (Nat.zero_le _) (by simpa using hi)
  simp only [grayOk, Bool.and_eq_true, Bool.or_eq_true, decide_eq_true_eq, beq_iff_eq] at h
  obtain ⟨⟨⟨⟨h1, h2⟩, h3⟩, h4⟩, h5⟩ := h
  refine ⟨h1, h2, h3, h4, fun h0 => ?_⟩
  rcases h5 with h5 | ⟨⟨h5, h6⟩, h7⟩
  · omega
  · exact ⟨h5, h6, h7⟩

end Go.Proofs.YtcdbkgpgjjeoiaaDoor
/- Charts as words; sums in Gray's order: plain Lean. -/
namespace Go.Proofs.YtcdbkgpgjjeoiaaDoor
open Go Go.RowKit
set_option maxRecDepth 100000

/-- Sums. -/
def sumN (f : Nat → Nat) : Nat → Nat
  | 0 => 0
  | n + 1 => sumN f n + f n
theorem sumN_congr {f g : Nat → Nat} : ∀ n, (∀ i, i < n → f i = g i) → sumN f n = sumN g n
  | 0, _ => rfl
  | n + 1, h => by rw [sumN, sumN, sumN_congr n (fun i hi => h i (by omega)), h n (by omega)]
theorem sumN_add (f g : Nat → Nat) : ∀ n, sumN (fun i => f i + g i) n = sumN f n + sumN g n
  | 0 => rfl
  | n + 1 => by rw [sumN, sumN, sumN, sumN_add f g n]; omega
theorem sumN_zero : ∀ n, sumN (fun _ => 0) n = 0
  | 0 => rfl
  | n + 1 => by rw [sumN, sumN_zero n]
theorem sumN_swap (f : Nat → Nat → Nat) (m : Nat) : ∀ n, sumN (fun i => sumN (fun j => f i j) m) n = sumN (fun j => sumN (fun i => f i j) n) m
  | 0 => by simp only [sumN]; rw [sumN_zero]
  | n + 1 => by
    rw [sumN, sumN_swap f m n, ← sumN_add]
    rfl
theorem sumN_one (a x : Nat) : ∀ n, sumN (fun i => if i = a then x else 0) n = if a < n then x else 0
  | 0 => by simp [sumN]
  | n + 1 => by
    rw [sumN, sumN_one a x n]
    by_cases h : n = a
    · subst h; simp
    · by_cases h2 : a < n
      · rw [if_pos h2, if_neg h, if_pos (by omega)]; omega
      · rw [if_neg h2, if_neg h, if_neg (by omega)]
/-- A sum in another order. -/
theorem sumN_perm (s t : Nat → Nat) (n : Nat) (hs : ∀ i, i < n → s i < n) (hst : ∀ i, i < n → t (s i) = i) (hts : ∀ j, j < n → t j < n ∧ s (t j) = j) (f : Nat → Nat) : sumN (fun i => f (s i)) n = sumN f n := by
  have e1 : sumN (fun i => f (s i)) n = sumN (fun i => sumN (fun j => if j = s i then f j else 0) n) n := sumN_congr n fun i hi => by
    have : sumN (fun j => if j = s i then f j else 0) n = sumN (fun j => if j = s i then f (s i) else 0) n := sumN_congr n fun j _ => by
      by_cases h : j = s i
      · rw [if_pos h, if_pos h, h]
      · rw [if_neg h, if_neg h]
    rw [this, sumN_one, if_pos (hs i hi)]
  rw [e1, sumN_swap]
  refine sumN_congr n fun j hj => ?_
  have : sumN (fun i => if j = s i then f j else 0) n = sumN (fun i => if i = t j then f j else 0) n := sumN_congr n fun i hi => by
    by_cases h : i = t j
    · subst h; rw [if_pos (hts j hj).2.symm, if_pos rfl]
    · rw [if_neg h, if_neg]
      intro e
      exact h (by rw [e, hst i hi])
  rw [this, sumN_one, if_pos (hts j hj).1]
theorem sumN_gr (f : Nat → Nat) : sumN (fun i => f (gr i)) 65536 = sumN f 65536 :=
  sumN_perm gr ungr 65536 (fun i hi => (gray_at i hi).1) (fun i hi => (gray_at i hi).2.2.1) (fun j hj => ⟨(gray_at j hj).2.1, (gray_at j hj).2.2.2.1⟩) f

/-- Sixteen figures in one number, the first i of them. -/
def pk (F : Nat → Nat) : Nat → Nat
  | 0 => 0
  | i + 1 => pk F i + F i * 2 ^ (4 * i)
theorem pk_lt (F : Nat → Nat) (n : Nat) (hF : ∀ i, i < n → F i < 16) : ∀ i, i ≤ n → pk F i < 2 ^ (4 * i)
  | 0, _ => by simp [pk]
  | i + 1, h => by
    have h1 := pk_lt F n hF i (by omega)
    have h2 := hF i (by omega)
    rw [pk, show 4 * (i + 1) = 4 * i + 4 by omega, Nat.pow_add]
    have : F i * 2 ^ (4 * i) ≤ 15 * 2 ^ (4 * i) := Nat.mul_le_mul_right _ (by omega)
    omega
theorem pk_digit (F : Nat → Nat) (n : Nat) (hF : ∀ i, i < n → F i < 16) : ∀ m, m ≤ n → ∀ i, i < m → pk F m / 2 ^ (4 * i) % 16 = F i
  | 0, _, i, hi => by omega
  | m + 1, h, i, hi => by
    have hm := hF m (by omega)
    rw [pk]
    by_cases e : i = m
    · subst e
      rw [Nat.add_mul_div_right _ _ (Nat.two_pow_pos _), Nat.div_eq_of_lt (pk_lt F n hF i (by omega))]
      omega
    · have ih := pk_digit F n hF m (by omega) i (by omega)
      have e2 : F m * 2 ^ (4 * m) = (F m * 2 ^ (4 * (m - i) - 4) * 16) * 2 ^ (4 * i) := by
        rw [Nat.mul_assoc, Nat.mul_assoc, show (16 : Nat) = 2 ^ 4 from rfl, ← Nat.pow_add, ← Nat.pow_add]
        congr 2; omega
      rw [e2, Nat.add_mul_div_right _ _ (Nat.two_pow_pos _), Nat.add_mul_mod_self_right]
      exact ih
theorem digits_ext : ∀ (n x y : Nat), x < 2 ^ (4 * n) → y < 2 ^ (4 * n) → (∀ i, i < n → x / 2 ^ (4 * i) % 16 = y / 2 ^ (4 * i) % 16) → x = y
  | 0, x, y, hx, hy, _ => by simp at hx hy; omega
  | n + 1, x, y, hx, hy, h => by
    rw [show 4 * (n + 1) = 4 * n + 4 by omega, Nat.pow_add] at hx hy
    have h0 := h 0 (by omega)
    simp only [Nat.mul_zero, Nat.pow_zero, Nat.div_one] at h0
    have := digits_ext n (x / 16) (y / 16) (by rw [Nat.div_lt_iff_lt_mul (by omega)]; exact hx) (by rw [Nat.div_lt_iff_lt_mul (by omega)]; exact hy) fun i hi => by
      have := h (i + 1) (by omega)
      rw [show 4 * (i + 1) = 4 + 4 * i by omega, Nat.pow_add, ← Nat.div_div_eq_div_mul, ← Nat.div_div_eq_div_mul] at this
      exact this
    omega
theorem xor_digit (x y i : Nat) : (x ^^^ y) / 2 ^ i % 16 = (x / 2 ^ i % 16) ^^^ (y / 2 ^ i % 16) := by
  rw [Nat.xor_div_two_pow, show (16 : Nat) = 2 ^ 4 from rfl, Nat.xor_mod_two_pow]
theorem pk_xor (F G : Nat → Nat) (n : Nat) (hF : ∀ i, i < n → F i < 16) (hG : ∀ i, i < n → G i < 16) : pk (fun i => F i ^^^ G i) n = pk F n ^^^ pk G n := by
  have hX : ∀ i, i < n → F i ^^^ G i < 16 := fun i hi => Nat.xor_lt_two_pow (n := 4) (hF i hi) (hG i hi)
  refine digits_ext n _ _ (pk_lt _ n hX n (Nat.le_refl _)) (Nat.xor_lt_two_pow (pk_lt F n hF n (Nat.le_refl _)) (pk_lt G n hG n (Nat.le_refl _))) fun i hi => ?_
  rw [xor_digit, pk_digit F n hF n (Nat.le_refl _) i hi, pk_digit G n hG n (Nat.le_refl _) i hi, pk_digit (fun i => F i ^^^ G i) n hX n (Nat.le_refl _) i hi]
theorem pk_congr {F G : Nat → Nat} : ∀ n, (∀ i, i < n → F i = G i) → pk F n = pk G n
  | 0, _ => rfl
  | n + 1, h => by rw [pk, pk, pk_congr n (fun i hi => h i (by omega)), h n (by omega)]
theorem dg_xor (F G : Nat → Nat) (s : Nat) : ∀ n, dg (fun i => F i ^^^ G i) s n = dg F s n ^^^ dg G s n := fun n => by
  apply Nat.eq_of_testBit_eq
  intro i
  rw [Nat.testBit_xor, dg_bit, dg_bit, dg_bit, Nat.testBit_xor]
  cases decide (i < n) <;> simp
theorem der_xor (M N : Nat → Nat) (i : Nat) (hi : i < 16) : der (fun i => M i ^^^ N i) i = der M i ^^^ der N i := by
  refine der_unique _ (fun i => der M i ^^^ der N i) (fun i hi => by show der M i ^^^ der N i = M i ^^^ N i; rw [der_lo M i hi, der_lo N i hi]) (fun i hi h4 => ?_) i hi
  have hM := der_fol M i h4 hi
  have hN := der_fol N i h4 hi
  show der M i ^^^ der N i = fol (fun i => der M i ^^^ der N i) i
  rw [hM, hN]
  unfold fol
  by_cases h8 : 8 ≤ i
  · rw [if_pos h8, if_pos h8, if_pos h8]
    rw [Nat.xor_assoc, Nat.xor_assoc, ← Nat.xor_assoc (der M (pb i)), Nat.xor_comm (der M (pb i)), Nat.xor_assoc (der N (pa i))]
  · rw [if_neg h8, if_neg h8, if_neg h8, dg_xor]
theorem mths_xor (a b i : Nat) : mths (a ^^^ b) i = mths a i ^^^ mths b i := by
  unfold mths
  exact xor_digit a b _
/-- The word of a chart. -/
def word (n : Nat) : Nat := pk (der (mths n)) 16
theorem word_lt (n : Nat) : word n < 18446744073709551616 := pk_lt _ 16 (fun i hi => der_lt (mths n) (fun i _ => mths_lt n i) i hi) 16 (Nat.le_refl _)
theorem word_digit (n i : Nat) (hi : i < 16) : word n / 2 ^ (4 * i) % 16 = der (mths n) i := pk_digit _ 16 (fun i hi => der_lt (mths n) (fun i _ => mths_lt n i) i hi) 16 (Nat.le_refl _) i hi
theorem word_xor (a b : Nat) : word (a ^^^ b) = word a ^^^ word b := by
  unfold word
  rw [← pk_xor _ _ 16 (fun i hi => der_lt (mths a) (fun i _ => mths_lt a i) i hi) (fun i hi => der_lt (mths b) (fun i _ => mths_lt b i) i hi)]
  refine pk_congr 16 fun i hi => ?_
  rw [← der_xor _ _ i hi]
  congr 1
  funext j
  exact mths_xor a b j
theorem word_zero : word 0 = 0 := by decide
/-- One step of Gray's order. -/
theorem word_step (i : Nat) (h0 : 0 < i) (hi : i < 65536) : word (gr i) = word (gr (i - 1)) ^^^ word (2 ^ tz i) := by
  rw [← word_xor, ((gray_at i hi).2.2.2.2 h0).2.2]
end Go.Proofs.YtcdbkgpgjjeoiaaDoor
