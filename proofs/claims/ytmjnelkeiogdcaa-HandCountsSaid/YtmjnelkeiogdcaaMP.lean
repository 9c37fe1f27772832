/- The plain law of hands: the reference's denominators and weights, step by step. -/
import Derived.Test.YtmjnelkeiogdcaaPF
set_option linter.unusedSimpArgs false
set_option linter.unusedVariables false
namespace Go.Proofs.Ytmjnelkeiogdcaa
open Go Go.RowKit

/-- All courses. -/
def allC (H : HV) : List (List Nat) := crs H anyS (dep (beginS H)) (beginS H)
theorem all_run (H : HV) (j : Nat) (h : j < (allC H).length) : ∃ t, (allC H)[j].length = dep (beginS H) ∧ runN H (beginS H) (allC H)[j] = some t := by
  obtain ⟨h1, t, h2, _⟩ := crs_run H anyS _ _ _ (List.getElem_mem h)
  exact ⟨t, h1, h2⟩
theorem ch_pos (H : HV) (s t : St) (p : List Nat) (hr : runN H s p = some t) (i : Nat) (hi : i < p.length) : ∃ u v, runN H s (p.take i) = some u ∧ pick (brs H u) p[i] = some v ∧ chE H s (p.take i) = chN H u ∧ 0 < chN H u ∧ runN H s (p.take (i + 1)) = some v := by
  have hsp : p = (p.take i ++ [p[i]]) ++ p.drop (i + 1) := by simp
  rw [hsp] at hr
  obtain ⟨v, h1, _⟩ := run_take H _ _ _ _ hr
  obtain ⟨u, h3, h4⟩ := run_split H _ _ _ _ h1
  have ht : p.take (i + 1) = p.take i ++ [p[i]] := by rw [List.take_add_one, List.getElem?_eq_getElem hi]; rfl
  refine ⟨u, v, h3, h4, by unfold chE; rw [h3], ?_, by rw [ht]; exact h1⟩
  have := pick_lt _ _ _ h4
  rw [← chN_sum] at this
  omega
/-- The common denominator of step i, by the first j courses. -/
def stepJ (H : HV) (i j : Nat) : Nat := lcmL (((allC H).take j).map fun p => chE H (beginS H) (p.take i))
theorem step_zero (H : HV) (i : Nat) : satN (stepJ H i 0) = 1 := by simp [stepJ, lcmL, satN]
theorem step_succ (H : HV) (i j : Nat) (h : j < (allC H).length) (hi : i < dep (beginS H)) :
    timesN (satN (stepJ H i j)) (chE H (beginS H) ((allC H)[j].take i) / Nat.gcd (satN (stepJ H i j)) (chE H (beginS H) ((allC H)[j].take i))) = satN (stepJ H i (j + 1)) := by
  obtain ⟨t, h1, h2⟩ := all_run H j h
  obtain ⟨u, v, _, _, h5, h6, _⟩ := ch_pos H _ _ _ h2 i (by omega)
  rw [Nat.gcd_comm, stepJ, lcm_step_all _ _ (by omega), stepJ, List.take_add_one, List.getElem?_eq_getElem h, Option.toList_some, List.map_append]
  rfl
theorem step_all (H : HV) (hV : Val H) (i j : Nat) (hi : i ≤ dep (beginS H)) (hj : (allC H).length ≤ j) : stepJ H i j = comK H (beginS H) i := by
  rw [stepJ, List.take_of_length_le hj]
  exact ref_com H (beginS H) (begin_fit H hV.hand.ok) hV.hand.last hV.hand.wide i hi
theorem den_succ (H : HV) (i : Nat) : timesN (satN (dnK H (beginS H) i)) (satN (comK H (beginS H) i)) = satN (dnK H (beginS H) (i + 1)) := by rw [times_sats, dn_succ]
theorem den_zero (H : HV) : satN (dnK H (beginS H) 0) = 1 := by simp [dnK, comL, prodL, satN]
/-- The weight of a course, step by step. -/
theorem wR_snoc (H : HV) : ∀ (A : List Nat) (d : Nat) (s u v : St) (c : Nat), runN H s A = some u → pick (brs H u) c = some v → wR H d s (A ++ [c]) = wR H d s A / chN H u
  | [], d, s, u, v, c, hr, hp => by
    simp only [runN, Option.some.injEq] at hr
    subst hr
    simp [wR, hp]
  | a :: A, d, s, u, v, c, hr, hp => by
    rw [runN] at hr
    cases hv : pick (brs H s) a with
    | none => rw [hv] at hr; cases hr
    | some q =>
      rw [hv] at hr
      rw [List.cons_append, wR, wR, hv]
      exact wR_snoc H A _ q u v c hr hp
theorem wR_step (H : HV) (d : Nat) (s t : St) (p : List Nat) (hr : runN H s p = some t) (i : Nat) (hi : i < p.length) : wR H d s (p.take (i + 1)) = wR H d s (p.take i) / chE H s (p.take i) := by
  obtain ⟨u, v, h1, h2, h3, _, _⟩ := ch_pos H s t p hr i hi
  have ht : p.take (i + 1) = p.take i ++ [p[i]] := by rw [List.take_add_one, List.getElem?_eq_getElem hi]; rfl
  rw [ht, h3]
  exact wR_snoc H _ d s u v _ h1 h2
theorem wR_le (H : HV) : ∀ (L : List Nat) (d : Nat) (s : St), wR H d s L ≤ d
  | [], d, s => Nat.le_refl _
  | c :: L, d, s => by
    rw [wR]
    split
    · exact Nat.le_trans (wR_le H L _ _) (Nat.div_le_self _ _)
    · omega
/-- The weight of an outcome, by the first k courses. -/
def rawP (H : HV) (k o : Nat) : Nat := ((((allC H).take k).filter (endP H (beginS H) (okO H ((o : Nat) : Int)))).map (wR H (dnK H (beginS H) (dep (beginS H))) (beginS H))).sum
theorem rawP_zero (H : HV) (o : Nat) : rawP H 0 o = 0 := by simp [rawP]
theorem rawP_succ (H : HV) (k : Nat) (h : k < (allC H).length) (t : St) (hr : runN H (beginS H) (allC H)[k] = some t) (o : Nat) :
    rawP H (k + 1) o = rawP H k o + if ((o : Nat) : Int) = outN H t then wR H (dnK H (beginS H) (dep (beginS H))) (beginS H) (allC H)[k] else 0 := by
  rw [rawP, List.take_add_one, List.getElem?_eq_getElem h, Option.toList_some, List.filter_append, List.map_append, List.sum_append]
  congr 1
  have h0 : ¬ ((o : Nat) : Int) < 0 := by omega
  have he : endP H (beginS H) (okO H ((o : Nat) : Int)) (allC H)[k] = decide (((o : Nat) : Int) = outN H t) := by
    unfold endP
    rw [hr]
    simp [okO, h0]
  by_cases e : ((o : Nat) : Int) = outN H t
  · rw [if_pos e, List.filter_cons_of_pos (by rw [he]; simpa using e)]
    simp
  · rw [if_neg e, List.filter_cons_of_neg (by rw [he]; simpa using e)]
    simp
theorem rawP_all (H : HV) (hV : Val H) (k o : Nat) (h : (allC H).length ≤ k) : rawP H k o = rawW H (beginS H) o := by
  rw [rawP, List.take_of_length_le h]
  exact ref_weight H (beginS H) (begin_fit H hV.hand.ok) hV.hand.last o
theorem rawP_le (H : HV) (hV : Val H) (k o : Nat) : rawP H k o ≤ dnK H (beginS H) (dep (beginS H)) := by
  refine Nat.le_trans ?_ (raw_le H (beginS H) (begin_fit H hV.hand.ok) hV.hand.last o)
  rw [← rawP_all H hV (allC H).length o (Nat.le_refl _), rawP, rawP, List.take_length]
  conv => rhs; rw [← List.take_append_drop k (allC H), List.filter_append, List.map_append, List.sum_append]
  omega
theorem gcd_raw_pos (H : HV) (hV : Val H) : 0 < gcdW (rawW H (beginS H)) (outsN H) := by
  obtain ⟨i, h1, h2⟩ := raw_pos H hV.hand.ok hV.hand.last
  exact gcdW_pos _ _ i h1 h2
/-- The first i have been divided. -/
def mixW (f : Nat → Nat) (D i : Nat) : Nat → Nat := fun o => if o < i then f o / D else f o
theorem mix_none (f : Nat → Nat) (D : Nat) : mixW f D 0 = f := by funext o; simp [mixW]
theorem mix_one (f : Nat → Nat) (D i : Nat) : (fun o => if o = i then f i / D else mixW f D i o) = mixW f D (i + 1) := by
  funext o
  unfold mixW
  by_cases h : o = i
  · subst h; simp
  · by_cases h2 : o < i
    · rw [if_neg h, if_pos h2, if_pos (by omega)]
    · rw [if_neg h, if_neg h2, if_neg (by omega)]
end Go.Proofs.Ytmjnelkeiogdcaa
