/- Walk of law 11: WitnessOne. -/
import Derived.Test.YtbcileppebpamaaGreatDoorYB
import Derived.Test.YtbcileppebpamaaGreatDoorWW
set_option linter.unusedSimpArgs false
set_option linter.unusedVariables false
namespace Go.Proofs.YtbcileppebpamaaGreatDoor
open Go Go.RowKit Go.Shelf
set_option maxRecDepth 100000

/-- The values: one more among those of the others. -/
def bldV (p v : Nat) (O : List Nat) : Nat → List Nat
  | 0 => []
  | i + 1 => bldV p v O i ++ (if i = p then [v] else []) ++ [O.getD i 0]
def allV (p v : Nat) (O : List Nat) (m : Nat) : List Nat := bldV p v O m ++ (if p = m then [v] else [])
theorem bldV_sum (p v : Nat) (O : List Nat) : ∀ i, i ≤ O.length → (bldV p v O i).sum = (O.take i).sum + if p < i then v else 0
  | 0, _ => by simp [bldV]
  | i + 1, h => by
    rw [bldV, List.sum_append, List.sum_append, bldV_sum p v O i (by omega), List.take_add_one, List.getElem?_eq_getElem (show i < O.length by omega)]
    simp only [Option.toList_some, List.sum_append, List.sum_singleton, List.getD_eq_getElem?_getD, List.getElem?_eq_getElem (show i < O.length by omega), Option.getD_some]
    by_cases h1 : i = p
    · subst h1
      simp
      omega
    · by_cases h2 : p < i
      · rw [if_neg h1, if_pos h2, if_pos (by omega)]
        simp
        omega
      · rw [if_neg h1, if_neg h2, if_neg (by omega)]
        simp
theorem bldV_len (p v : Nat) (O : List Nat) : ∀ i, (bldV p v O i).length = i + if p < i then 1 else 0
  | 0 => by simp [bldV]
  | i + 1 => by
    rw [bldV, List.length_append, List.length_append, bldV_len p v O i]
    by_cases h1 : i = p
    · subst h1
      simp
    · by_cases h2 : p < i
      · rw [if_neg h1, if_pos h2, if_pos (by omega)]
        simp
        try omega
      · rw [if_neg h1, if_neg h2, if_neg (by omega)]
        simp
theorem bldV_lt (p v n : Nat) (O : List Nat) (hv : v < n) (hO : ∀ x ∈ O, x < n) : ∀ i, ∀ x ∈ bldV p v O i, x < n
  | 0, x, h => by simp [bldV] at h
  | i + 1, x, h => by
    rw [bldV] at h
    rcases List.mem_append.1 h with h | h
    · rcases List.mem_append.1 h with h | h
      · exact bldV_lt p v n O hv hO i x h
      · split at h
        · rw [List.mem_singleton.1 h]; exact hv
        · simp at h
    · rw [List.mem_singleton.1 h, List.getD_eq_getElem?_getD]
      cases hx : O[i]? with
      | none => show 0 < n; omega
      | some y => exact hO y (List.mem_of_getElem? hx)
theorem allV_sum (p v m : Nat) (O : List Nat) (hm : O.length = m) (hp : p ≤ m) : (allV p v O m).sum = v + O.sum := by
  rw [allV, List.sum_append, bldV_sum p v O m (by omega), List.take_of_length_le (by omega)]
  by_cases h : p = m
  · subst h
    simp
    omega
  · rw [if_pos (by omega), if_neg h]
    simp
    omega
theorem allV_len (p v m : Nat) (O : List Nat) (hp : p ≤ m) : (allV p v O m).length = m + 1 := by
  rw [allV, List.length_append, bldV_len]
  by_cases h : p = m
  · subst h
    simp
  · rw [if_pos (by omega), if_neg h]
    rfl
theorem allV_lt (p v n m : Nat) (O : List Nat) (hv : v < n) (hO : ∀ x ∈ O, x < n) : ∀ x ∈ allV p v O m, x < n := fun x h => by
  rw [allV] at h
  rcases List.mem_append.1 h with h | h
  · exact bldV_lt p v n O hv hO m x h
  · split at h
    · rw [List.mem_singleton.1 h]; exact hv
    · simp at h
theorem sumV_vsF (vs : List Nat) : ∀ i, i ≤ vs.length → sumV (vsF vs) i = (vs.take i).sum
  | 0, _ => by simp [sumV]
  | i + 1, h => by
    rw [sumV, sumV_vsF vs i (by omega), List.take_add_one, List.getElem?_eq_getElem (show i < vs.length by omega)]
    simp only [Option.toList_some, List.sum_append, List.sum_singleton, vsF, List.getD_eq_getElem?_getD, List.getElem?_eq_getElem (show i < vs.length by omega), Option.getD_some]
end Go.Proofs.YtbcileppebpamaaGreatDoor
