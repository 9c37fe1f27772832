/- The plain law of shares: a sum of remainders, counted. -/
import Derived.Test.YtbcileppebpamaaGreatDoorWH
set_option linter.unusedSimpArgs false
set_option linter.unusedVariables false
namespace Go.Proofs.YtbcileppebpamaaGreatDoor
open Go Go.RowKit

/-- How many of the first v values give a remainder. -/
def cntM (n c : Nat) : Nat → Nat → Nat
  | 0, _ => 0
  | v + 1, i => cntM n c v i + if (v + c) % n = i then 1 else 0
theorem cntM_le (n c : Nat) : ∀ v i, cntM n c v i ≤ v
  | 0, _ => Nat.le_refl _
  | v + 1, i => by have := cntM_le n c v i; simp only [cntM]; split <;> omega
theorem cntM_eq (n c u i : Nat) (hi : (u + c) % n = i) (hn : 0 < n) (hu : u < n) : ∀ v, v ≤ n → cntM n c v i = if u < v then 1 else 0
  | 0, _ => by simp [cntM]
  | v + 1, h => by
    rw [cntM, cntM_eq n c u i hi hn hu v (by omega)]
    by_cases e : v = u
    · subst e
      simp [hi]
    · have hne : (v + c) % n ≠ i := by
        intro hv
        rw [← hi] at hv
        apply e
        have d1 := Nat.div_add_mod (v + c) n
        have d2 := Nat.div_add_mod (u + c) n
        rw [hv] at d1
        rcases Nat.lt_trichotomy ((v + c) / n) ((u + c) / n) with h1 | h1 | h1
        · have := Nat.mul_le_mul_left n (show (v + c) / n + 1 ≤ (u + c) / n from h1)
          rw [Nat.mul_add, Nat.mul_one] at this
          omega
        · rw [h1] at d1
          omega
        · have := Nat.mul_le_mul_left n (show (u + c) / n + 1 ≤ (v + c) / n from h1)
          rw [Nat.mul_add, Nat.mul_one] at this
          omega
      rw [if_neg hne]
      by_cases h2 : u < v
      · rw [if_pos h2, if_pos (by omega)]
      · rw [if_neg h2, if_neg (by omega)]
theorem cntM_one (n c i : Nat) (hi : i < n) : cntM n c n i = 1 := by
  have hn : 0 < n := by omega
  have h1 : ((i + (n - c % n)) % n + c) % n = i := by
    rw [Nat.mod_add_mod]
    have hc : c % n < n := Nat.mod_lt _ hn
    have hd : c = n * (c / n) + c % n := (Nat.div_add_mod c n).symm
    rw [show i + (n - c % n) + c = i + n * (1 + c / n) by rw [Nat.mul_add, Nat.mul_one]; omega, Nat.add_mul_mod_self_left, Nat.mod_eq_of_lt hi]
  rw [cntM_eq n c ((i + (n - c % n)) % n) i h1 hn (Nat.mod_lt _ hn) n (Nat.le_refl _), if_pos (Nat.mod_lt _ hn)]
/-- All are shares: their sum. -/
theorem addO_all (b : Nat) (hb : 0 < b) : ∀ (xs : List Nat) (n : Nat), (∀ x ∈ xs, x < b) → n < b → addO b (xs.map fun x => ((x : Nat) : Int)) n = some ((n + xs.sum) % b)
  | [], n, _, hn => by simp [addO, Nat.mod_eq_of_lt hn]
  | x :: xs, n, h, hn => by
    have hx := h x (List.mem_cons_self)
    rw [List.map_cons, addO, if_pos ⟨by omega, by omega⟩, Int.toNat_natCast, addO_all b hb xs _ (fun y hy => h y (List.mem_cons_of_mem _ hy)) (Nat.mod_lt _ hb), Nat.mod_add_mod, List.sum_cons, Nat.add_assoc]
theorem combR_all (b : Nat) (hb : 1 ≤ b ∧ b ≤ 1000000000) (xs : List Nat) (h : ∀ x ∈ xs, x < b) (hl : xs.length ≤ 30) : combR b (xs.map fun x => ((x : Nat) : Int)) = (((xs.sum % b : Nat) : Int), 0) := by
  unfold combR
  rw [if_neg (by rw [Bool.not_eq_false, inR_iff]; omega), if_neg (by simp; omega), Int.toNat_natCast, addO_all b (by omega) xs 0 h (by omega), Nat.zero_add]
theorem splitR_all (v b : Nat) (hb : 1 ≤ b ∧ b ≤ 1000000000) (hv : v < b) (xs : List Nat) (h : ∀ x ∈ xs, x < b) (hl : xs.length ≤ 30) :
    splitR v b (xs.map fun x => ((x : Nat) : Int)) = ((xs ++ [(v + (b - xs.sum % b)) % b]).map fun x => ((x : Nat) : Int), 0) := by
  unfold splitR
  rw [combR_all b hb xs h hl]
  have hs : xs.sum % b < b := Nat.mod_lt _ (by omega)
  rw [if_neg (by rw [not_or, Bool.not_eq_false, Bool.not_eq_false, inR_iff, inR_iff]; omega), if_neg (by simp)]
  rw [List.map_append]
  congr 1
  congr 1
  simp only [List.map_cons, List.map_nil]
  congr 1
  rw [show ((b : Nat) : Int) - ((xs.sum % b : Nat) : Int) = ((b - xs.sum % b : Nat) : Int) by omega]
  push_cast
  rw [Int.add_emod_emod]
/-- The last share, with all others. -/
theorem last_sum (v b s : Nat) (hv : v < b) : (s + (v + (b - s % b)) % b) % b = v := by
  have hb : 0 < b := by omega
  rw [Nat.add_mod_mod]
  have hc : s % b < b := Nat.mod_lt _ hb
  have hd : s = b * (s / b) + s % b := (Nat.div_add_mod s b).symm
  rw [show s + (v + (b - s % b)) = v + b * (1 + s / b) by rw [Nat.mul_add, Nat.mul_one]; omega, Nat.add_mul_mod_self_left, Nat.mod_eq_of_lt hv]
/-- The reference's shares. -/
theorem split_ref (v b n : Int) (hv : 0 ≤ v ∧ v < b) (hn : 0 ≤ n ∧ n < b) : (v + (b - n) % b) % b = Int.tmod (v - n + b) b := by
  rw [Int.tmod_eq_emod_of_nonneg (by omega), Int.add_emod_emod]
  congr 1
  omega
end Go.Proofs.YtbcileppebpamaaGreatDoor
