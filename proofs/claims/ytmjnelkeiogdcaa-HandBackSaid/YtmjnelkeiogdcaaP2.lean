/- The plain law of hands: the course with a number; the order of the courses; counts that are cut off. -/
import Derived.Test.YtmjnelkeiogdcaaP1
namespace Go.Proofs.Ytmjnelkeiogdcaa
open Go
set_option maxRecDepth 100000

/-- The course with a number. -/
def nthN (H : HV) (P : St → Bool) : Nat → St → Nat → List Nat
  | 0, _, _ => []
  | k + 1, s, i => match nthS (cnt H P k) 0 i (brs H s) with | some (c, j, t) => c :: nthN H P k t j | none => []
theorem nth_spec (H : HV) (P : St → Bool) : ∀ (k : Nat) (s : St) (i : Nat), i < cnt H P k s → (crs H P k s)[i]? = some (nthN H P k s i)
  | 0, s, i, h => by
    unfold cnt crs at h
    unfold crs nthN
    split
    · rename_i hP
      rw [if_pos hP] at h
      have : i = 0 := by simpa using h
      subst this
      rfl
    · rename_i hP
      rw [if_neg hP] at h
      simp at h
  | k + 1, s, i, h => by
    have hlt : i < (runsF (fun c t => (crs H P k t).map (c :: ·)) 0 (brs H s)).length := h
    obtain ⟨c, j, t, h1, h2, _, _, _, h5⟩ := nthS_spec (fun c t => (crs H P k t).map (c :: ·)) (cnt H P k) (fun c t => by simp [cnt]) (brs H s) 0 i hlt
    rw [crs, nthN, h1, h5, List.getElem?_map, nth_spec H P k t j h2]
    rfl
/-- Ahead in the order. -/
def lexL : List Nat → List Nat → Prop
  | a :: A, b :: B => a < b ∨ (a = b ∧ lexL A B)
  | _, _ => False
theorem range_sorted {β : Type} (R : β → β → Prop) (g : Nat → List β) (h1 : ∀ i, (g i).Pairwise R) (h2 : ∀ i j, i < j → ∀ x ∈ g i, ∀ y ∈ g j, R x y) : ∀ m, ((List.range m).flatMap g).Pairwise R
  | 0 => by simp
  | m + 1 => by
    rw [List.range_succ, List.flatMap_append, List.flatMap_cons, List.flatMap_nil, List.append_nil, List.pairwise_append]
    refine ⟨range_sorted R g h1 h2 m, h1 m, fun x hx y hy => ?_⟩
    obtain ⟨i, hi, hx⟩ := List.mem_flatMap.1 hx
    exact h2 i m (List.mem_range.1 hi) x hx y hy
theorem runs_head (f : Nat → St → List (List Nat)) : ∀ (L : List (Nat × St)) (o : Nat) (l : List Nat), l ∈ runsF (fun c t => (f c t).map (c :: ·)) o L → ∃ c A, l = c :: A ∧ o ≤ c
  | [], o, l, h => by cases h
  | x :: L, o, l, h => by
    unfold runsF at h
    rcases List.mem_append.1 h with h | h
    · obtain ⟨i, _, h⟩ := List.mem_flatMap.1 h
      obtain ⟨A, _, rfl⟩ := List.mem_map.1 h
      exact ⟨_, _, rfl, by omega⟩
    · obtain ⟨c, A, h1, h2⟩ := runs_head f L _ l h
      exact ⟨c, A, h1, by omega⟩
theorem map_sorted (c : Nat) (L : List (List Nat)) (h : L.Pairwise lexL) : (L.map (c :: ·)).Pairwise lexL := by
  rw [List.pairwise_map]
  exact h.imp fun h => .inr ⟨rfl, h⟩
theorem runs_sorted (f : Nat → St → List (List Nat)) (hf : ∀ c t, (f c t).Pairwise lexL) : ∀ (L : List (Nat × St)) (o : Nat), (runsF (fun c t => (f c t).map (c :: ·)) o L).Pairwise lexL
  | [], o => by simp [runsF]
  | x :: L, o => by
    unfold runsF
    rw [List.pairwise_append]
    refine ⟨range_sorted lexL _ (fun i => map_sorted _ _ (hf _ _)) (fun i j hij a ha b hb => ?_) _, runs_sorted f hf L _, fun a ha b hb => ?_⟩
    · obtain ⟨A, _, rfl⟩ := List.mem_map.1 ha
      obtain ⟨B, _, rfl⟩ := List.mem_map.1 hb
      exact .inl (by omega)
    · obtain ⟨i, hi, ha⟩ := List.mem_flatMap.1 ha
      obtain ⟨A, _, rfl⟩ := List.mem_map.1 ha
      obtain ⟨c, B, rfl, h2⟩ := runs_head f L _ b hb
      exact .inl (by have := List.mem_range.1 hi; omega)
theorem crs_sorted (H : HV) (P : St → Bool) : ∀ (k : Nat) (s : St), (crs H P k s).Pairwise lexL
  | 0, s => by unfold crs; split <;> simp
  | k + 1, s => by
    rw [crs]
    exact runs_sorted (fun _ t => crs H P k t) (fun _ t => crs_sorted H P k t) _ _
/-- A count that is cut off at 10^15 + 1. -/
def satN (n : Nat) : Nat := if n ≤ 1000000000000000 then n else 1000000000000001
theorem satN_le (n : Nat) : satN n ≤ 1000000000000001 := by unfold satN; split <;> omega
theorem satN_small (n : Nat) : satN n ≤ 1000000000000000 ↔ n ≤ 1000000000000000 := by unfold satN; split <;> omega
theorem satN_id (n : Nat) (h : n ≤ 1000000000000000) : satN n = n := by unfold satN; rw [if_pos h]
theorem sat_times (a b : Nat) : timesN (satN a) b = satN (a * b) := by
  unfold timesN
  rcases Nat.eq_zero_or_pos b with hb | hb
  · subst hb
    rw [if_neg (by omega)]
    simp [satN]
  · by_cases ha : a ≤ 1000000000000000
    · rw [satN_id a ha]
      unfold satN
      by_cases h : 1000000000000000 / b < a
      · have h' := (Nat.div_lt_iff_lt_mul hb).1 h
        rw [if_pos ⟨hb, h⟩, if_neg (by omega)]
      · have h' := mt (Nat.div_lt_iff_lt_mul hb).2 h
        rw [if_neg (by omega), if_pos (by omega)]
    · have e : satN a = 1000000000000001 := by unfold satN; rw [if_neg ha]
      have h1 : 1000000000000000 / b ≤ 1000000000000000 := Nat.div_le_self _ _
      rw [e, if_pos ⟨hb, by omega⟩]
      have h2 : a * 1 ≤ a * b := Nat.mul_le_mul_left a hb
      unfold satN
      rw [if_neg (by omega)]
theorem sat_add (a b : Nat) : min (satN a + satN b) 1000000000000001 = satN (a + b) := by unfold satN; split <;> split <;> split <;> omega
/-- No state that is reached, and from which a step is left, is without a choice. -/
def Last (H : HV) (s : St) : Prop := ∀ k t, Reach H s k t → dep t ≠ 0 → 0 < chN H t
theorem reach_trans (H : HV) (s : St) (w : Nat) (t : St) (h : (w, t) ∈ brs H s) : ∀ k u, Reach H t k u → Reach H s (k + 1) u
  | 0, u, e => ⟨s, rfl, w, by have e' : u = t := e; rw [e']; exact h⟩
  | k + 1, u, ⟨v, hv, w', hw⟩ => ⟨v, reach_trans H s w t h k v hv, w', hw⟩
theorem Last.step {H : HV} {s t : St} {w : Nat} (h : Last H s) (hm : (w, t) ∈ brs H s) : Last H t := fun k u hu hd => h (k + 1) u (reach_trans H s w t hm k u hu) hd
theorem Last.self {H : HV} {s : St} (h : Last H s) (hd : dep s ≠ 0) : 0 < chN H s := h 0 s rfl hd
theorem dep_zero {H : HV} {s : St} (hF : Fit H s) (h : dep s = 0) : brs H s = [] := by
  cases hb : brs H s with
  | nil => rfl
  | cons x L =>
    have := (step_fit H s hF x (by rw [hb]; simp)).2
    omega
theorem chN_sum (H : HV) (s : St) : chN H s = sumW (brs H s) := rfl
/-- Courses with an outcome; all of them at a negative one. -/
def okO (H : HV) (o : Int) (t : St) : Bool := decide (o < 0) || decide (o = outN H t)
def cntO (H : HV) (o : Int) (s : St) : Nat := cnt H (okO H o) (dep s) s
theorem cntO_zero (H : HV) (o : Int) (s : St) (h : dep s = 0) : cntO H o s = if okO H o s then 1 else 0 := by
  unfold cntO
  rw [h]
  exact cnt_zero H _ s
theorem cntO_succ (H : HV) (o : Int) (s : St) (hF : Fit H s) (h : dep s ≠ 0) : cntO H o s = ((brs H s).map fun x => x.1 * cntO H o x.2).sum := by
  unfold cntO
  obtain ⟨k, hk⟩ : ∃ k, dep s = k + 1 := ⟨dep s - 1, by omega⟩
  rw [hk, cnt_succ]
  congr 1
  refine List.map_congr_left fun x hx => ?_
  have := (step_fit H s hF x hx).2
  rw [show dep x.2 = k by omega]
end Go.Proofs.Ytmjnelkeiogdcaa
