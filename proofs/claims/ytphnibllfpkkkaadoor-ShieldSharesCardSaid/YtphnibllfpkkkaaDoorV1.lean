/- The law ShieldWays: the walk. -/
import Derived.Test.YtphnibllfpkkkaaDoorW10
import Derived.Test.YtphnibllfpkkkaaDoorR6
namespace Go.Proofs.YtphnibllfpkkkaaDoor
open Go Go.RowKit
set_option maxRecDepth 100000

theorem Ints.form {w : World} {B : Nat} {v : Value} {xs : List Int} (h : Ints w B v xs) : ∃ p c, v = .slice p xs.length c := by
  rcases h.2 with ⟨h2, h3⟩ | ⟨g, cap, cur, h3, _⟩
  · exact ⟨none, 0, by rw [h2, h3]⟩
  · exact ⟨_, _, h3⟩
/-- The places that do not follow: none, where the chart is one. -/
theorem wl_nil (F : Nat → Nat) : ∀ p, (wl F p = [] ↔ ∀ i, i < p → 4 ≤ i → F i = fol F i)
  | 0 => by simp [wl]
  | p + 1 => by
    rw [wl]
    split
    · rename_i h
      rw [wl_nil F p]
      constructor
      · intro H i hi h4
        by_cases e : i = p
        · subst e; rcases h with h | h
          · omega
          · exact h
        · exact H i (by omega) h4
      · intro H i hi h4
        exact H i (by omega) h4
    · rename_i h
      constructor
      · intro e; simp at e
      · intro H
        exact absurd (.inr (H p (by omega) (by omega))) h
theorem fol_congr {F G : Nat → Nat} (k : Nat) (hk : k < 16) (h : ∀ i, i < k → F i = G i) (h4 : 4 ≤ k) : fol F k = fol G k := by
  unfold fol
  split
  · rename_i h8
    have := pa_dn k h8 hk
    rw [h _ this.1, h _ this.2]
  · have : ∀ n, n ≤ 4 → dg F (k - 4) n = dg G (k - 4) n := by
      intro n
      induction n with
      | zero => intro _; rfl
      | succ n ih =>
        intro hn
        simp only [dg]
        rw [ih (by omega), h n (by omega)]
    exact this 4 (Nat.le_refl _)
theorem up_lo (M : Nat → Nat) (i : Nat) (hi : i < 4) : ∀ n, up M n i = M i
  | 0 => by simp [up, overN, hi]
  | n + 1 => by
    rw [up]
    have : ¬ i = n + 4 := by omega
    simp only [upN, if_neg this]
    exact up_lo M i hi n
theorem up_keep (M : Nat → Nat) (i : Nat) : ∀ n m, i < n + 4 → n ≤ m → up M m i = up M n i := by
  intro n m hi hm
  induction m with
  | zero => obtain rfl : n = 0 := by omega
            rfl
  | succ m ih =>
    by_cases e : n = m + 1
    · rw [e]
    · rw [up]
      have : ¬ i = m + 4 := by omega
      simp only [upN, if_neg this]
      exact ih (by omega)
theorem der_fol (M : Nat → Nat) (i : Nat) (h4 : 4 ≤ i) (h16 : i < 16) : der M i = fol (der M) i := by
  obtain ⟨n, rfl⟩ : ∃ n, i = n + 4 := ⟨i - 4, by omega⟩
  have e1 : der M (n + 4) = up M (n + 1) (n + 4) := up_keep M (n + 4) (n + 1) 12 (by omega) (by omega)
  rw [e1, up]
  simp only [upN, if_pos]
  exact fol_congr (n + 4) h16 (fun j hj => (up_keep M j n 12 (by omega) (by omega)).symm) h4
theorem der_lo (M : Nat → Nat) (i : Nat) (hi : i < 4) : der M i = M i := up_lo M i hi 12
theorem der_unique (M G : Nat → Nat) (h0 : ∀ i, i < 4 → G i = M i) (h1 : ∀ i, i < 16 → 4 ≤ i → G i = fol G i) : ∀ i, i < 16 → der M i = G i := by
  intro i
  induction i using Nat.strongRecOn with
  | _ i ih =>
    intro hi
    by_cases h4 : i < 4
    · rw [der_lo M i h4, h0 i h4]
    · rw [der_fol M i (by omega) hi, h1 i hi (by omega)]
      exact fol_congr i hi (fun j hj => ih j hj (by omega)) (by omega)
theorem chart_wl (F : Nat → Nat) : Chart F ↔ wl F 16 = [] := by
  rw [wl_nil]
  constructor
  · intro h i hi h4
    have := der_fol F i h4 hi
    rw [h i hi] at this
    rw [this]
    exact fol_congr i hi (fun j hj => h j (by omega)) h4
  · intro h i hi
    exact der_unique F F (fun _ _ => rfl) h i hi
end Go.Proofs.YtphnibllfpkkkaaDoor
