/- The plain law of hands: the reference's denominators and weights, course by course. -/
import Derived.Test.YtmjnelkeiogdcaaPE
import Derived.Test.YtmjnelkeiogdcaaKD
set_option linter.unusedSimpArgs false
set_option linter.unusedVariables false
namespace Go.Proofs.Ytmjnelkeiogdcaa
open Go Go.RowKit

theorem lcm_step_all (L : List Nat) (c : Nat) (h : 0 < c) : timesN (satN (lcmL L)) (c / Nat.gcd c (satN (lcmL L))) = satN (lcmL (L ++ [c])) := by
  by_cases hs : lcmL L ≤ 1000000000000000
  · rw [Nat.gcd_comm]
    exact lcm_step L c h hs
  · have h1 : satN (lcmL L) = 1000000000000001 := by unfold satN; rw [if_neg hs]
    have h2 := lcmL_le L (L ++ [c]) fun x hx => List.mem_append.2 (.inl hx)
    have h3 : satN (lcmL (L ++ [c])) = 1000000000000001 := by unfold satN; rw [if_neg (by omega)]
    rw [h1, h3, times_sat]
    have h4 : 0 < c / Nat.gcd c 1000000000000001 := Nat.div_pos (Nat.le_of_dvd h (Nat.gcd_dvd_left _ _)) (Nat.gcd_pos_of_pos_left _ h)
    unfold satN
    rw [if_neg]
    have := Nat.le_mul_of_pos_right 1000000000000001 h4
    omega
theorem times_sats (a b : Nat) : timesN (satN a) (satN b) = satN (a * b) := by rw [times_sat, sat_mul, sat_mul']
/-- From each state that can be reached a course goes on to the end. -/
theorem go_on (H : HV) (s0 : St) (hF0 : Fit H s0) (hl : Last H s0) (hw : Wide H) : ∀ (m k : Nat) (s : St), Reach H s0 k s → dep s = m → ∃ B : List Nat, B.length = m ∧ ∃ t, runN H s B = some t
  | 0, k, s, _, _ => ⟨[], rfl, s, rfl⟩
  | m + 1, k, s, hr, hd => by
    have hc := hl k s hr (by omega)
    rw [chN_sum] at hc
    obtain ⟨t, ht⟩ := pick_some (brs H s) 0 hc
    obtain ⟨x, hx⟩ := pick_mem _ _ _ ht
    have hst := step_fit H s (reach_fit H s0 hF0 k s hr).1 (x, t) hx
    obtain ⟨B, hB, u, hu⟩ := go_on H s0 hF0 hl hw m (k + 1) t ⟨s, hr, x, hx⟩ (by have h5 : dep t + 1 = dep s := hst.2; omega)
    exact ⟨0 :: B, by simp [hB], u, by rw [runN, ht]; exact hu⟩
theorem run_app (H : HV) : ∀ (A B : List Nat) (s u t : St), runN H s A = some u → runN H u B = some t → runN H s (A ++ B) = some t
  | [], B, s, u, t, h, k => by
    simp only [runN, Option.some.injEq] at h
    rw [h]
    exact k
  | a :: A, B, s, u, t, h, k => by
    rw [List.cons_append, runN]
    rw [runN] at h
    cases hv : pick (brs H s) a with
    | none => rw [hv] at h; cases h
    | some v =>
      rw [hv] at h
      exact run_app H A B v u t h k
theorem mem_crs_any (H : HV) (k : Nat) (s t : St) (L : List Nat) (hl : L.length = k) (hr : runN H s L = some t) : L ∈ crs H anyS k s :=
  List.mem_of_getElem? (rank_spec H anyS k s L t hl hr rfl).2
/-- The common denominator of a step, course by course. -/
theorem ref_com (H : HV) (s0 : St) (hF0 : Fit H s0) (hl : Last H s0) (hw : Wide H) (k : Nat) (hk : k ≤ dep s0) : lcmL ((crs H anyS (dep s0) s0).map fun p => chE H s0 (p.take k)) = comK H s0 k := by
  unfold comK
  refine lcmL_congr _ _ fun c hc => ?_
  constructor
  · intro h
    obtain ⟨p, hp, rfl⟩ := List.mem_map.1 h
    obtain ⟨h1, t, h2, _⟩ := crs_run H anyS _ _ p hp
    have hsp : p = p.take k ++ p.drop k := (List.take_append_drop k p).symm
    rw [hsp] at h2
    obtain ⟨u, h3, _⟩ := run_take H _ _ _ _ h2
    refine List.mem_map.2 ⟨u, (mem_lay H s0 k u).2 ((reach_run H hw s0 k u).2 ⟨p.take k, by rw [List.length_take]; omega, h3⟩), ?_⟩
    unfold chE
    rw [h3]
  · intro h
    obtain ⟨u, hu, rfl⟩ := List.mem_map.1 h
    have hr := (mem_lay H s0 k u).1 hu
    obtain ⟨A, hA, hrA⟩ := (reach_run H hw s0 k u).1 hr
    have hdu := (reach_fit H s0 hF0 k u hr).2
    obtain ⟨B, hB, t, hrB⟩ := go_on H s0 hF0 hl hw (dep u) k u hr rfl
    refine List.mem_map.2 ⟨A ++ B, mem_crs_any H _ s0 t _ (by rw [List.length_append]; omega) (run_app H A B s0 u t hrA hrB), ?_⟩
    rw [List.take_left' hA]
    unfold chE
    rw [hrA]
/-- The weight of an outcome, course by course. -/
theorem ref_weight (H : HV) (s0 : St) (hF0 : Fit H s0) (hl : Last H s0) (o : Nat) : (((crs H anyS (dep s0) s0).filter (endP H s0 (okO H ((o : Nat) : Int)))).map (wR H (dnK H s0 (dep s0)) s0)).sum = rawW H s0 o := by
  rw [← crs_filter]
  have h := crs_weights H s0 hF0 hl (okO H ((o : Nat) : Int)) (dep s0) 0 s0 1 rfl rfl
  rw [Nat.one_mul, Nat.one_mul] at h
  exact h
end Go.Proofs.Ytmjnelkeiogdcaa
