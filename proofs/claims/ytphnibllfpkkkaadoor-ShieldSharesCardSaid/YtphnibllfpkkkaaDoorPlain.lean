/- Chapter 3 in plain Lean: figures are naturals below 16, a chart is a function of the place. -/
import Derived.Test.YtphnibllfpkkkaaDoorRowk
namespace Go.Proofs.YtphnibllfpkkkaaDoor
open Go Go.RowKit

/-- The bits of a daughter: line s of the first i mothers. -/
def dg (F : Nat → Nat) (s : Nat) : Nat → Nat
  | 0 => 0
  | i + 1 => dg F s i ||| (F i / 2 ^ s % 2 * 2 ^ i)
def pa (k : Nat) : Nat := (par (k * 2)).toNat
def pb (k : Nat) : Nat := (par (k * 2 + 1)).toNat
/-- The figure that follows at a place. -/
def fol (F : Nat → Nat) (k : Nat) : Nat := if 8 ≤ k then F (pa k) ^^^ F (pb k) else dg F (k - 4) 4
/-- The chart after n derived places. -/
def up (M : Nat → Nat) : Nat → Nat → Nat
  | 0 => overN 4 M (fun _ => 0)
  | n + 1 => upN (up M n) (n + 4) (fol (up M n) (n + 4))
def der (M : Nat → Nat) : Nat → Nat := up M 12

theorem pa_lt (k : Nat) : pa k < 16 := by have := par_bd (k * 2); unfold pa; omega
theorem pb_lt (k : Nat) : pb k < 16 := by have := par_bd (k * 2 + 1); unfold pb; omega
theorem dg_lt (F : Nat → Nat) (s : Nat) : ∀ i, dg F s i < 2 ^ i
  | 0 => by simp [dg]
  | i + 1 => by
    have := dg_lt F s i
    rw [dg]
    refine Nat.or_lt_two_pow (by omega) ?_
    have h2 : F i / 2 ^ s % 2 < 2 := Nat.mod_lt _ (by omega)
    calc _ ≤ 1 * 2 ^ i := Nat.mul_le_mul_right _ (by omega)
      _ < 2 ^ (i + 1) := by rw [Nat.pow_succ]; have : 0 < 2 ^ i := Nat.two_pow_pos i; omega
def Ok (F : Nat → Nat) : Prop := ∀ i, F i < 16
theorem fol_lt (F : Nat → Nat) (hF : ∀ i, i < 16 → F i < 16) (k : Nat) : fol F k < 16 := by
  unfold fol
  split
  · exact Nat.xor_lt_two_pow (n := 4) (hF _ (pa_lt k)) (hF _ (pb_lt k))
  · exact dg_lt F (k - 4) 4
theorem up_lt (M : Nat → Nat) (hM : ∀ i, i < 4 → M i < 16) : ∀ n i, i < 16 → up M n i < 16
  | 0, i, _ => by
    simp only [up, overN]
    by_cases h : i < 4
    · rw [if_pos h]; exact hM i h
    · rw [if_neg h]; omega
  | n + 1, i, hi => by
    simp only [up, upN]
    split
    · exact fol_lt _ (up_lt M hM n) _
    · exact up_lt M hM n i hi
theorem der_lt (M : Nat → Nat) (hM : ∀ i, i < 4 → M i < 16) (i : Nat) (hi : i < 16) : der M i < 16 := up_lt M hM 12 i hi
theorem dg_step (F : Nat → Nat) (s n : Nat) (hF : F n < 16) (hn : n < 4) :
    bits .or .i64 ((dg F s n : Nat) : Int) (wrap64 (bits .and .i64 (((F n : Nat) : Int) / 2 ^ s) 1 * 2 ^ n)) = ((dg F s (n + 1) : Nat) : Int) := by
  have e1 : ((F n : Nat) : Int) / 2 ^ s = ((F n / 2 ^ s : Nat) : Int) := by push_cast; rfl
  have hlt : F n / 2 ^ s < 16 := Nat.lt_of_le_of_lt (Nat.div_le_self _ _) hF
  rw [e1, i64_and1 _ (by omega)]
  have e2 : ((F n / 2 ^ s % 2 : Nat) : Int) * 2 ^ n = ((F n / 2 ^ s % 2 * 2 ^ n : Nat) : Int) := by push_cast; rfl
  have hp : 2 ^ n ≤ 8 := by
    have : n = 0 ∨ n = 1 ∨ n = 2 ∨ n = 3 := by omega
    rcases this with rfl | rfl | rfl | rfl <;> decide
  have hb : F n / 2 ^ s % 2 * 2 ^ n ≤ 1 * 8 := Nat.mul_le_mul (by omega) hp
  have hd := dg_lt F s n
  rw [e2, IntWalk.wrap64_in _ (by omega), i64_or _ _ (by omega) (by omega)]
  rfl
/-- The number of mothers, after i of them. -/
def num (M : Nat → Nat) : Nat → Nat
  | 0 => 0
  | i + 1 => num M i * 16 + M i
theorem num_lt (M : Nat → Nat) (hM : ∀ i, i < 4 → M i < 16) : ∀ i, i ≤ 4 → num M i < 16 ^ i
  | 0, _ => by simp [num]
  | i + 1, h => by
    have h1 := num_lt M hM i (by omega)
    have h2 := hM i (by omega)
    rw [num, Nat.pow_succ]; omega
theorem num_step (M : Nat → Nat) (i : Nat) (h : num M i < 4096) (hM : M i < 16) : bits .or .i64 (wrap64 (((num M i : Nat) : Int) * 16)) ((M i : Nat) : Int) = ((num M (i + 1) : Nat) : Int) := by
  have e : ((num M i : Nat) : Int) * 16 = ((num M i * 16 : Nat) : Int) := by push_cast; rfl
  rw [e, IntWalk.wrap64_in _ (by omega), i64_or _ _ (by omega) (by omega), nat_join 4 _ _ (by omega) (by omega)]
  rfl
/-- The mothers with a number. -/
def mths (n : Nat) : Nat → Nat := fun i => n / 2 ^ (4 * (3 - i)) % 16
/-- .. the last i of them laid. -/
def mthsTo (n i : Nat) : Nat → Nat := fun j => if 4 - i ≤ j then n / 2 ^ (4 * (3 - j)) % 16 else 0
theorem mths_lt (n i : Nat) : mths n i < 16 := Nat.mod_lt _ (by omega)
theorem mths_step (n i : Nat) (hn : n < 65536) (hi : i < 4) : bits .and .i64 (((n : Nat) : Int) / 2 ^ (4 * i)) 15 = ((mths n (3 - i) : Nat) : Int) := by
  have e1 : ((n : Nat) : Int) / 2 ^ (4 * i) = ((n / 2 ^ (4 * i) : Nat) : Int) := by push_cast; rfl
  have hlt : n / 2 ^ (4 * i) < 65536 := Nat.lt_of_le_of_lt (Nat.div_le_self _ _) hn
  rw [e1, i64_and15 _ (by omega)]
  unfold mths
  rw [show 3 - (3 - i) = i by omega]
theorem mthsTo_step (n i : Nat) (hi : i < 4) : irow 4 (upd (cst (mthsTo n i)) (3 - i) ((mths n (3 - i) : Nat) : Int)) = irow 4 (cst (mthsTo n (i + 1))) := by
  rw [upd_cst]
  apply irow_congr
  intro j hj
  simp only [cst, upN, mthsTo, mths]
  congr 1
  by_cases e : j = 3 - i
  · subst e; rw [if_pos rfl, if_pos (by omega)]
  · rw [if_neg e]
    by_cases h : 4 - i ≤ j
    · rw [if_pos h, if_pos (by omega)]
    · rw [if_neg h, if_neg (by omega)]
theorem num_mths (n : Nat) (hn : n < 65536) : num (mths n) 4 = n := by
  simp only [num, mths, Nat.reduceSub, Nat.reduceMul, Nat.reducePow]; omega
theorem mths_num (M : Nat → Nat) (hM : ∀ i, i < 4 → M i < 16) (i : Nat) (hi : i < 4) : mths (num M 4) i = M i := by
  have h0 := hM 0 (by omega); have h1 := hM 1 (by omega); have h2 := hM 2 (by omega); have h3 := hM 3 (by omega)
  have : i = 0 ∨ i = 1 ∨ i = 2 ∨ i = 3 := by omega
  rcases this with rfl | rfl | rfl | rfl <;> simp only [num, mths, Nat.reduceSub, Nat.reduceMul, Nat.reducePow] <;> omega
/-- How many marks a line has. -/
def ln (f k : Nat) : Nat := 2 - f / 2 ^ k % 2
theorem ln_bd (f k : Nat) : 1 ≤ ln f k ∧ ln f k ≤ 2 := by have := Nat.mod_lt (f / 2 ^ k) (show 0 < 2 by omega); unfold ln; omega
/-- The figure with some marks, after t lines from below. -/
def ofT (m : Nat → Nat) : Nat → Nat
  | 0 => 0
  | t + 1 => 2 * ofT m t + 2 - m (3 - t)
theorem ofT_lt (m : Nat → Nat) (hm : ∀ i, i < 4 → 1 ≤ m i ∧ m i ≤ 2) : ∀ t, t ≤ 4 → ofT m t < 2 ^ t
  | 0, _ => by simp [ofT]
  | t + 1, h => by
    have h1 := ofT_lt m hm t (by omega)
    have h2 := hm (3 - t) (by omega)
    rw [ofT, Nat.pow_succ]; omega
theorem ofT_congr {m m' : Nat → Nat} (h : ∀ i, i < 4 → m i = m' i) : ∀ t, t ≤ 4 → ofT m t = ofT m' t
  | 0, _ => rfl
  | t + 1, ht => by rw [ofT, ofT, ofT_congr h t (by omega), h (3 - t) (by omega)]
def sumM (a b : Nat) : Nat → Nat := fun j => if ln a j = ln b j then 2 else 1
theorem ofT_sum (a b : Nat) (ha : a < 16) (hb : b < 16) : ofT (sumM a b) 4 = a ^^^ b := by
  have : ∀ a b : Fin 16, ofT (sumM a b) 4 = a.1 ^^^ b.1 := by decide +kernel
  exact this ⟨a, ha⟩ ⟨b, hb⟩
theorem ofT_dg (F : Nat → Nat) (s : Nat) : ofT (fun i => ln (F i) s) 4 = dg F s 4 := by
  have hb : ∀ i, F i / 2 ^ s % 2 = 0 ∨ F i / 2 ^ s % 2 = 1 := fun i => by omega
  simp only [ofT, ln, dg, Nat.reduceSub]
  rcases hb 0 with h0 | h0 <;> rcases hb 1 with h1 | h1 <;> rcases hb 2 with h2 | h2 <;> rcases hb 3 with h3 | h3 <;> simp only [h0, h1, h2, h3] <;> decide
theorem half_pow (f k : Nat) : f / 2 ^ k / 2 = f / 2 ^ (k + 1) := by rw [Nat.div_div_eq_div_mul, Nat.pow_succ]
/-- The parents in numbers. -/
theorem pa_pb (k : Nat) (h8 : 8 ≤ k) (h16 : k < 16) : (k < 14 → pa k = 2 * (k - 8) ∧ pb k = 2 * (k - 8) + 1) ∧ (k = 14 → pa k = 12 ∧ pb k = 13) ∧ (k = 15 → pa k = 14 ∧ pb k = 0) := by
  have : k = 8 ∨ k = 9 ∨ k = 10 ∨ k = 11 ∨ k = 12 ∨ k = 13 ∨ k = 14 ∨ k = 15 := by omega
  rcases this with rfl | rfl | rfl | rfl | rfl | rfl | rfl | rfl <;> decide
/-- The places below p that do not follow. -/
def wl (F : Nat → Nat) : Nat → List Int
  | 0 => []
  | p + 1 => if p < 4 ∨ F p = fol F p then wl F p else wl F p ++ [((p : Nat) : Int)]
theorem wl_len (F : Nat → Nat) : ∀ p, (wl F p).length ≤ p
  | 0 => by simp [wl]
  | p + 1 => by
    have := wl_len F p
    rw [wl]; split
    · omega
    · simp; omega
/-- Whether a line has one mark. -/
def bitB (f l : Nat) : Bool := decide (f / 2 ^ l % 2 = 1)
theorem bit_and (f l : Nat) (hf : f < 16) : (bits .and .i64 (((f : Nat) : Int) / 2 ^ l) 1 == 1) = bitB f l := by
  have e1 : ((f : Nat) : Int) / 2 ^ l = ((f / 2 ^ l : Nat) : Int) := by push_cast; rfl
  have hlt : f / 2 ^ l < 16 := Nat.lt_of_le_of_lt (Nat.div_le_self _ _) hf
  rw [e1, i64_and1 _ (by omega)]
  unfold bitB
  rw [Bool.eq_iff_iff]; simp; omega
/-- The places of a way. -/
def wk (F : Nat → Nat) (l : Nat) : Nat → Nat
  | 0 => 14
  | j + 1 => if bitB (F (pa (wk F l j))) l then pa (wk F l j) else pb (wk F l j)
def wlist (F : Nat → Nat) (l : Nat) : Nat → List Int
  | 0 => [14]
  | j + 1 => wlist F l j ++ [((wk F l (j + 1) : Nat) : Int)]
theorem wlist_len (F : Nat → Nat) (l : Nat) : ∀ j, (wlist F l j).length = j + 1
  | 0 => rfl
  | j + 1 => by rw [wlist, List.length_append, wlist_len F l j]; rfl
theorem wk_bd (F : Nat → Nat) (l : Nat) : (12 ≤ wk F l 1 ∧ wk F l 1 ≤ 13) ∧ (8 ≤ wk F l 2 ∧ wk F l 2 ≤ 11) ∧ wk F l 3 ≤ 7 := by
  have h1 : 12 ≤ wk F l 1 ∧ wk F l 1 ≤ 13 := by
    rw [wk, wk]; split <;> decide
  have h2 : 8 ≤ wk F l 2 ∧ wk F l 2 ≤ 11 := by
    rw [wk]
    have : wk F l 1 = 12 ∨ wk F l 1 = 13 := by omega
    rcases this with h | h <;> rw [h] <;> split <;> decide
  refine ⟨h1, h2, ?_⟩
  rw [wk]
  have : wk F l 2 = 8 ∨ wk F l 2 = 9 ∨ wk F l 2 = 10 ∨ wk F l 2 = 11 := by omega
  rcases this with h | h | h | h <;> rw [h] <;> split <;> decide
end Go.Proofs.YtphnibllfpkkkaaDoor
