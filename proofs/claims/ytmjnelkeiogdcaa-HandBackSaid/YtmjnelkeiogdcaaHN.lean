/- The plain law of hands: states that follow fit, and come nearer to the end. -/
import Derived.Test.YtmjnelkeiogdcaaHD
namespace Go.Proofs.Ytmjnelkeiogdcaa
open Go
set_option maxRecDepth 100000

/-- How many steps there are left at most. -/
def dep : St → Nat
  | .thrown l _ => l
  | .marked m => if m = 0 then 1 else 0
  | .divided l _ => l
  | .drawn l _ _ => l
  | .cut k => if 0 ≤ k then 0 else 1
theorem leftN_le (g n i : Nat) : leftN g n i ≤ n := by unfold leftN; omega
theorem step_fit (H : HV) (s : St) (hF : Fit H s) (x : Nat × St) (hx : x ∈ brs H s) : Fit H x.2 ∧ dep x.2 + 1 = dep s := by
  cases s with
  | thrown l k =>
    have hK := hF.2
    obtain ⟨h1, h2, h3, h4⟩ := hF.1
    simp only [brs] at hx
    split at hx
    · cases hx
    · obtain ⟨f, hf, rfl⟩ := List.mem_map.1 hx
      have := (h4 f hf).1
      exact ⟨⟨⟨by omega, by omega, h3, h4⟩, hK⟩, by simp only [dep]; omega⟩
  | marked m =>
    have hK := hF.2
    obtain ⟨h1, h2, h3⟩ := hF.1
    simp only [brs] at hx
    split at hx
    · rename_i h0
      obtain ⟨i, hi, rfl⟩ := List.mem_map.1 hx
      rw [List.mem_range] at hi
      refine ⟨⟨⟨by omega, h2, h3⟩, hK⟩, ?_⟩
      simp only [dep]
      rw [if_neg (by omega), if_pos h0]
    · cases hx
  | divided l k =>
    have hK := hF.2
    obtain ⟨h1, h2, h3, h4⟩ := hF.1
    simp only [brs] at hx
    split at hx
    · cases hx
    · obtain ⟨i, _, rfl⟩ := List.mem_map.1 hx
      have := leftN_le H.group k (i + 1)
      exact ⟨⟨⟨by omega, by omega, h3, h4⟩, hK⟩, by simp only [dep]; omega⟩
  | drawn l g k =>
    have hK := hF.2
    obtain ⟨h1, h2, h3, h4, h5⟩ := hF.1
    simp only [brs] at hx
    split at hx
    · cases hx
    · obtain ⟨i, hi, rfl⟩ := List.mem_map.1 hx
      have hi' : i < H.cards.length := List.mem_range.1 (List.mem_filter.1 hi).1
      have hc : H.cards.getD i 0 < 8 := by
        simp only [List.getD_eq_getElem?_getD, List.getElem?_eq_getElem hi', Option.getD_some]
        exact h5 _ (List.getElem_mem hi')
      refine ⟨⟨⟨by omega, Nat.or_lt_two_pow h2 (Nat.pow_lt_pow_right (by omega) (by omega)), ?_, h4, h5⟩, hK⟩, by simp only [dep]; omega⟩
      have e : 5 - (l - 1) = (5 - l) + 1 := by omega
      rw [e, Nat.pow_succ]
      omega
  | cut k =>
    have hK := hF.2
    obtain ⟨h1, h2, h3, h4⟩ := hF.1
    simp only [brs] at hx
    split at hx
    · cases hx
    · rename_i h
      obtain ⟨c, hc, rfl⟩ := List.mem_map.1 hx
      have := h4 c hc
      refine ⟨⟨⟨by omega, by omega, h3, h4⟩, hK⟩, ?_⟩
      simp only [dep]
      rw [if_pos (by omega), if_neg h]
/-- The states that are reached in k steps. -/
def Reach (H : HV) (s0 : St) : Nat → St → Prop
  | 0, s => s = s0
  | k + 1, t => ∃ s, Reach H s0 k s ∧ ∃ w, (w, t) ∈ brs H s
theorem reach_fit (H : HV) (s0 : St) (h0 : Fit H s0) : ∀ k s, Reach H s0 k s → Fit H s ∧ dep s + k = dep s0
  | 0, s, h => by
    have e : s = s0 := h
    subst e
    exact ⟨h0, rfl⟩
  | k + 1, t, ⟨s, hs, w, hw⟩ => by
    obtain ⟨h1, h2⟩ := reach_fit H s0 h0 k s hs
    obtain ⟨h3, h4⟩ := step_fit H s h1 (w, t) hw
    exact ⟨h3, by simp only at h4; omega⟩
/-- What a layer of the courses holds. -/
def LayerL (H : HV) (s0 : St) (k : Nat) (L : List (St × Int)) : Prop :=
  (L.map Prod.fst).Nodup ∧ (∀ s, s ∈ L.map Prod.fst ↔ Reach H s0 k s) ∧ ∀ p ∈ L, p.2 = (((brs H p.1).map Prod.fst).sum : Nat)
end Go.Proofs.Ytmjnelkeiogdcaa
