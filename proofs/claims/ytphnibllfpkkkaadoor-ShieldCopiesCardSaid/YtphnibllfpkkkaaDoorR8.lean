/- Walks of the reference: Sets, Derive2. -/
import Derived.Test.YtphnibllfpkkkaaDoorR4
import Derived.Test.YtphnibllfpkkkaaDoorW16
import Derived.StillTailTactics
namespace Go.Proofs.YtphnibllfpkkkaaDoor
open Go Go.RowKit
set_option maxRecDepth 100000

theorem rSets_yes (S : Nat → Int) (hS : ∀ i, i < 16 → FSet (S i)) (w : World) :
    Calls Tryd.prog 45 #[.agg (irow 16 S)] w fun e w' => e = .returned (.bool true) ∧ Below w.heap.size w w' := by
  have h0 := heap_alloc_new w (.cells (irow 16 S) 78)
  have hb0 : Below w.heap.size w (w.alloc (.cells (irow 16 S) 78)) := (Below.refl _ _).alloc (Nat.le_refl _) _
  have HV := hid hS
  clear hS
  go_enter Tryd.func45, Tryd.ntmps45
  go_wp2_with fail
  generalize hW : w.alloc (.cells (irow 16 S) 78) = w1 at *
  clear hW
  go_loop [3] (fun i => ∃ k : Nat, k ≤ 16 ∧ i = .int .i64 k) (fun i => 16 - (intOf i).toNat)
  case atStart => exact ⟨0, by omega, rfl⟩
  case round =>
    obtain ⟨k, hk, rfl⟩ := hrel
    by_cases hlt : k < 16
    · have hlt' : (k : Int) < 16 := by omega
      have hc := cell_irow h0 k hlt
      have hf := HV.out k hlt
      unfold FSet at hf
      have a1 : decide (S k < 0) = false := by simp; omega
      have a2 : decide (65535 < S k) = false := by simp; omega
      generalize S k = y at *
      go_wp2_with fail
      go_round
      case rel => exact ⟨k + 1, by omega, by go_num⟩
      case measure => simp [intOf]; omega
    · have hge : ¬ (k : Int) < 16 := by omega
      go_wp2_with fail
      go_ret
      exact ⟨rfl, hb0⟩
theorem rSets_no (S : Nat → Int) (hS : ¬ ∀ i, i < 16 → FSet (S i)) (w : World) :
    Calls Tryd.prog 45 #[.agg (irow 16 S)] w fun e w' => e = .returned (.bool false) ∧ Below w.heap.size w w' := by
  have hex : ∃ j, j < 16 ∧ ¬ FSet (S j) := by
    apply Classical.byContradiction
    intro h
    exact hS fun i hi => Classical.byContradiction fun hb => h ⟨i, hi, hb⟩
  obtain ⟨j, ⟨hj, hb⟩, hl⟩ := exists_least hex
  have HV := hid (show ∀ i, i < j → FSet (S i) from fun i hi => Classical.byContradiction fun hb => absurd (hl i ⟨by omega, hb⟩) (by omega))
  have HB := hid hb
  clear hS hex hl hb
  have h0 := heap_alloc_new w (.cells (irow 16 S) 78)
  have hb0 : Below w.heap.size w (w.alloc (.cells (irow 16 S) 78)) := (Below.refl _ _).alloc (Nat.le_refl _) _
  go_enter Tryd.func45, Tryd.ntmps45
  go_wp2_with fail
  generalize hW : w.alloc (.cells (irow 16 S) 78) = w1 at *
  clear hW
  go_loop [3] (fun i => ∃ k : Nat, k ≤ j ∧ i = .int .i64 k) (fun i => 16 - (intOf i).toNat)
  case atStart => exact ⟨0, by omega, rfl⟩
  case round =>
    obtain ⟨k, hk, rfl⟩ := hrel
    have hlt' : (k : Int) < 16 := by omega
    have hc := cell_irow h0 k (by omega)
    by_cases hlt : k < j
    · have hf := HV.out k hlt
      unfold FSet at hf
      have a1 : decide (S k < 0) = false := by simp; omega
      have a2 : decide (65535 < S k) = false := by simp; omega
      generalize S k = y at *
      go_wp2_with fail
      go_round
      case rel => exact ⟨k + 1, by omega, by go_num⟩
      case measure => simp [intOf]; omega
    · obtain rfl : k = j := by omega
      have hf := HB.out
      unfold FSet at hf
      have hcases : decide (S k < 0) = true ∨ (decide (S k < 0) = false ∧ decide (65535 < S k) = true) := by
        by_cases h : S k < 0
        · exact .inl (by simpa using h)
        · exact .inr ⟨by simpa using h, by simp; omega⟩
      clear hf HB
      generalize S k = y at *
      rcases hcases with a1 | ⟨a1, a2⟩
      all_goals
        go_wp2_with fail
        go_ret
        exact ⟨rfl, hb0⟩

/-- Derive2's chart after j daughters whole and i lines of the next. -/
def dgU (F : Nat → Nat) (s : Nat) : Nat → Nat := dg F s
theorem dg_add (F : Nat → Nat) (s i : Nat) (_hi : i < 4) : dg F s (i + 1) = dg F s i + F i / 2 ^ s % 2 * 2 ^ i := by
  rw [dg]
  have h := dg_lt F s i
  have hb : F i / 2 ^ s % 2 = 0 ∨ F i / 2 ^ s % 2 = 1 := by omega
  rcases hb with e | e <;> rw [e]
  · simp
  · rw [Nat.one_mul, Nat.or_comm]
    have := Nat.two_pow_add_eq_or_of_lt h 1
    rw [Nat.mul_one] at this
    omega
/-- The chart under way: mothers, j daughters, i lines of daughter j. -/
def d2 (M : Nat → Nat) (j i : Nat) : Nat → Nat := fun p => if p < 4 then M p else if p < 4 + j then dg M (p - 4) 4 else if p = 4 + j then dg M j i else 0
theorem d2_step (M : Nat → Nat) (j i : Nat) : irow 16 (upd (cst (d2 M j i)) (4 + j) ((dg M j (i + 1) : Nat) : Int)) = irow 16 (cst (d2 M j (i + 1))) := by
  rw [upd_cst]
  apply irow_congr
  intro p hp
  simp only [cst, upN, d2]
  congr 1
  by_cases e : p = 4 + j
  · subst e; rw [if_pos rfl, if_neg (by omega), if_neg (by omega), if_pos rfl]
  · rw [if_neg e, if_neg e, if_neg e]
theorem d2_next (M : Nat → Nat) (j : Nat) : irow 16 (cst (d2 M j 4)) = irow 16 (cst (d2 M (j + 1) 0)) := by
  apply irow_congr
  intro p hp
  simp only [cst, d2]
  congr 1
  by_cases h1 : p < 4
  · rw [if_pos h1, if_pos h1]
  · rw [if_neg h1, if_neg h1]
    by_cases h2 : p < 4 + j
    · rw [if_pos h2, if_pos (by omega)]
    · rw [if_neg h2]
      by_cases h3 : p = 4 + j
      · subst h3; rw [if_pos rfl, if_pos (by omega), show 4 + j - 4 = j by omega]
      · rw [if_neg h3, if_neg (by omega)]
        by_cases h4 : p = 4 + (j + 1)
        · rw [if_pos h4]; rfl
        · rw [if_neg h4]
theorem d2_up (M : Nat → Nat) : irow 16 (cst (d2 M 4 0)) = irow 16 (cst (up M 4)) := by
  apply irow_congr
  intro p hp
  simp only [cst]
  congr 1
  have hu : ∀ p, p < 8 → up M 4 p = if p < 4 then M p else dg M (p - 4) 4 := fun p hp => by
    by_cases h : p < 4
    · rw [if_pos h]; exact up_lo M p h 4
    · rw [if_neg h]
      have e1 : up M 4 p = der M p := (up_keep M p 4 12 (by omega) (by omega)).symm
      have e2 := der_dg M (p - 4) (by omega)
      rw [show 4 + (p - 4) = p by omega] at e2
      rw [e1, e2]
  by_cases h : p < 8
  · rw [hu p h]; simp only [d2]
    by_cases h4 : p < 4
    · rw [if_pos h4, if_pos h4]
    · rw [if_neg h4, if_neg h4, if_pos h]
  · simp only [d2]; rw [if_neg (by omega), if_neg (by omega)]
    have hz : ∀ n, n ≤ 4 → ∀ q, n + 4 ≤ q → up M n q = 0 := fun n => by
      induction n with
      | zero => intro _ q hq; simp only [up, overN]; rw [if_neg (by omega)]
      | succ n ih => intro hn q hq; simp only [up, upN]; rw [if_neg (by omega)]; exact ih (by omega) q (by omega)
    rw [hz 4 (by omega) p (by omega)]
    by_cases h8 : p = 4 + 4
    · rw [if_pos h8]; rfl
    · rw [if_neg h8]
end Go.Proofs.YtphnibllfpkkkaaDoor
