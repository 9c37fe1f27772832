/- The plain law of hands: courses in their order, how many there are, the number of a course. -/
import Derived.Test.YtmjnelkeiogdcaaHK
import Derived.Test.YtmjnelkeiogdcaaHN
set_option linter.unusedSimpArgs false
set_option linter.unusedVariables false
namespace Go.Proofs.Ytmjnelkeiogdcaa
open Go
set_option maxRecDepth 100000

theorem sumW_cons (x : Nat × St) (L : List (Nat × St)) : sumW (x :: L) = x.1 + sumW L := by simp [sumW]
theorem pick_some : ∀ (L : List (Nat × St)) (c : Nat), c < sumW L → ∃ t, pick L c = some t
  | [], c, h => by simp [sumW] at h
  | x :: L, c, h => by
    rw [sumW_cons] at h
    unfold pick
    by_cases hc : c < x.1
    · rw [if_pos hc]; exact ⟨_, rfl⟩
    · rw [if_neg hc]; exact pick_some L _ (by omega)
theorem pick_none : ∀ (L : List (Nat × St)) (c : Nat), sumW L ≤ c → pick L c = none
  | [], c, _ => rfl
  | x :: L, c, h => by
    rw [sumW_cons] at h
    unfold pick
    rw [if_neg (by omega)]
    exact pick_none L _ (by omega)
theorem pick_lt (L : List (Nat × St)) (c : Nat) (t : St) (h : pick L c = some t) : c < sumW L := by
  apply Classical.byContradiction
  intro hn
  rw [pick_none L c (by omega)] at h
  cases h
theorem pick_mem : ∀ (L : List (Nat × St)) (c : Nat) (t : St), pick L c = some t → ∃ w, (w, t) ∈ L
  | [], c, t, h => by cases h
  | x :: L, c, t, h => by
    unfold pick at h
    by_cases hc : c < x.1
    · rw [if_pos hc] at h
      injection h with h
      subst h
      exact ⟨x.1, by simp⟩
    · rw [if_neg hc] at h
      obtain ⟨w, hw⟩ := pick_mem L _ t h
      exact ⟨w, by simp [hw]⟩
/-- All runs of choices, with the number of the first one of each. -/
def runsF {β : Type} (g : Nat → St → List β) : Nat → List (Nat × St) → List β
  | _, [] => []
  | o, x :: L => (List.range x.1).flatMap (fun i => g (o + i) x.2) ++ runsF g (o + x.1) L
theorem runsF_congr {β : Type} {g g' : Nat → St → List β} : ∀ (L : List (Nat × St)) (o : Nat), (∀ c, ∀ x ∈ L, g c x.2 = g' c x.2) → runsF g o L = runsF g' o L
  | [], _, _ => rfl
  | x :: L, o, h => by
    unfold runsF
    rw [runsF_congr L (o + x.1) fun c y hy => h c y (by simp [hy])]
    congr 2
    funext i
    exact h _ x (by simp)
theorem flat_len {α β : Type} (g : α → List β) (n : Nat) : ∀ (L : List α), (∀ x ∈ L, (g x).length = n) → (L.flatMap g).length = L.length * n
  | [], _ => by simp
  | x :: L, h => by
    rw [List.flatMap_cons, List.length_append, h x (by simp), flat_len g n L fun y hy => h y (by simp [hy]), List.length_cons, Nat.add_mul, Nat.one_mul, Nat.add_comm]
theorem flat_get {β : Type} (g : Nat → List β) (n : Nat) (hg : ∀ c, (g c).length = n) : ∀ (m i : Nat), i < m * n → ((List.range m).flatMap g)[i]? = (g (i / n))[i % n]?
  | 0, i, h => by omega
  | m + 1, i, h => by
    rw [List.range_succ, List.flatMap_append, List.flatMap_cons, List.flatMap_nil, List.append_nil]
    have hl : ((List.range m).flatMap g).length = m * n := by rw [flat_len g n _ fun x _ => hg x, List.length_range]
    by_cases hi : i < m * n
    · rw [List.getElem?_append_left (by omega)]
      exact flat_get g n hg m i hi
    · rw [List.getElem?_append_right (by omega), hl]
      have h1 : i - m * n < n := by rw [Nat.add_mul, Nat.one_mul] at h; omega
      obtain ⟨r, hr⟩ : ∃ r, i - m * n = r := ⟨_, rfl⟩
      rw [hr] at h1
      have e : i = n * m + r := by rw [Nat.mul_comm]; omega
      have hd : i / n = m := by rw [e, Nat.mul_add_div (by omega), Nat.div_eq_of_lt h1]; omega
      have hm : i % n = i - m * n := by rw [hr, e, Nat.mul_add_mod, Nat.mod_eq_of_lt h1]
      rw [hd, hm]
/-- All courses of k steps from a state on at whose end P holds, in their order. -/
def crs (H : HV) (P : St → Bool) : Nat → St → List (List Nat)
  | 0, s => if P s then [[]] else []
  | k + 1, s => runsF (fun c t => (crs H P k t).map (c :: ·)) 0 (brs H s)
def cnt (H : HV) (P : St → Bool) (k : Nat) (s : St) : Nat := (crs H P k s).length
theorem runsF_len {β : Type} (g : Nat → St → List β) (f : St → Nat) (hg : ∀ c t, (g c t).length = f t) : ∀ (L : List (Nat × St)) (o : Nat), (runsF g o L).length = (L.map fun x => x.1 * f x.2).sum
  | [], _ => rfl
  | x :: L, o => by
    unfold runsF
    rw [List.length_append, runsF_len g f hg L, flat_len _ (f x.2) _ fun i _ => hg _ _, List.length_range]
    simp
theorem cnt_zero (H : HV) (P : St → Bool) (s : St) : cnt H P 0 s = if P s then 1 else 0 := by
  unfold cnt crs
  split <;> rfl
theorem cnt_succ (H : HV) (P : St → Bool) (k : Nat) (s : St) : cnt H P (k + 1) s = ((brs H s).map fun x => x.1 * cnt H P k x.2).sum := by
  unfold cnt
  rw [crs]
  exact runsF_len (fun c t => (crs H P k t).map (c :: ·)) (fun t => (crs H P k t).length) (fun c t => List.length_map _) _ _
/-- The course with a number: the choice, what is left of the number, and the next state. -/
def nthS (f : St → Nat) : Nat → Nat → List (Nat × St) → Option (Nat × Nat × St)
  | _, _, [] => none
  | o, i, x :: L => if i < f x.2 * x.1 then some (o + i / f x.2, i % f x.2, x.2) else nthS f (o + x.1) (i - f x.2 * x.1) L
theorem nthS_spec {β : Type} (g : Nat → St → List β) (f : St → Nat) (hg : ∀ c t, (g c t).length = f t) : ∀ (L : List (Nat × St)) (o i : Nat), i < (runsF g o L).length →
    ∃ c j t, nthS f o i L = some (c, j, t) ∧ j < f t ∧ (∃ w, (w, t) ∈ L) ∧ o ≤ c ∧ pick L (c - o) = some t ∧ (runsF g o L)[i]? = (g c t)[j]?
  | [], o, i, h => by simp [runsF] at h
  | x :: L, o, i, h => by
    have hl : ((List.range x.1).flatMap fun i => g (o + i) x.2).length = x.1 * f x.2 := by rw [flat_len _ (f x.2) _ fun i _ => hg _ _, List.length_range]
    unfold runsF at h ⊢
    rw [List.length_append, hl] at h
    unfold nthS
    by_cases hi : i < f x.2 * x.1
    · rw [if_pos hi]
      have hf : 0 < f x.2 := by
        apply Nat.pos_of_ne_zero
        intro h0
        rw [h0] at hi
        omega
      have hd : i / f x.2 < x.1 := (Nat.div_lt_iff_lt_mul hf).2 (by rw [Nat.mul_comm]; exact hi)
      have hge : o ≤ o + i / f x.2 := Nat.le_add_right _ _
      have hsb : o + i / f x.2 - o = i / f x.2 := Nat.add_sub_cancel_left _ _
      refine ⟨_, _, _, rfl, Nat.mod_lt _ hf, ⟨x.1, by simp⟩, hge, ?_, ?_⟩
      · unfold pick
        rw [hsb, if_pos hd]
      · rw [List.getElem?_append_left (by rw [hl, Nat.mul_comm]; exact hi)]
        exact flat_get (fun i => g (o + i) x.2) (f x.2) (fun c => hg _ _) x.1 i (by rw [Nat.mul_comm]; exact hi)
    · rw [if_neg hi]
      have hi' : ¬ i < x.1 * f x.2 := by rw [Nat.mul_comm]; exact hi
      obtain ⟨c, j, t, h1, h2, ⟨w, hw⟩, h3, h4, h5⟩ := nthS_spec g f hg L (o + x.1) (i - f x.2 * x.1) (by rw [Nat.mul_comm (f x.2)]; omega)
      refine ⟨c, j, t, h1, h2, ⟨w, by simp [hw]⟩, by omega, ?_, ?_⟩
      · unfold pick
        rw [if_neg (by omega)]
        rw [show c - o - x.1 = c - (o + x.1) by omega]
        exact h4
      · rw [List.getElem?_append_right (by rw [hl]; omega), hl, Nat.mul_comm x.1]
        exact h5
/-- How many courses come ahead of a choice. -/
def rankS (f : St → Nat) : Nat → List (Nat × St) → Nat
  | _, [] => 0
  | c, x :: L => if c < x.1 then c * f x.2 else x.1 * f x.2 + rankS f (c - x.1) L
theorem rankS_spec {β : Type} (g : Nat → St → List β) (f : St → Nat) (hg : ∀ c t, (g c t).length = f t) : ∀ (L : List (Nat × St)) (o c : Nat) (t : St), pick L c = some t → ∀ j, j < f t →
    rankS f c L + j < (runsF g o L).length ∧ (runsF g o L)[rankS f c L + j]? = (g (o + c) t)[j]?
  | [], o, c, t, h => by cases h
  | x :: L, o, c, t, h => by
    intro j hj
    have hl : ((List.range x.1).flatMap fun i => g (o + i) x.2).length = x.1 * f x.2 := by rw [flat_len _ (f x.2) _ fun i _ => hg _ _, List.length_range]
    unfold pick at h
    unfold rankS runsF
    rw [List.length_append, hl]
    by_cases hc : c < x.1
    · rw [if_pos hc] at h ⊢
      injection h with h
      subst h
      have h1 : c * f x.2 + j < x.1 * f x.2 := by
        have : (c + 1) * f x.2 ≤ x.1 * f x.2 := Nat.mul_le_mul_right _ hc
        rw [Nat.add_mul, Nat.one_mul] at this
        omega
      refine ⟨by omega, ?_⟩
      rw [List.getElem?_append_left (by omega), flat_get (fun i => g (o + i) x.2) (f x.2) (fun c => hg _ _) x.1 _ h1]
      have hd : (c * f x.2 + j) / f x.2 = c := by rw [Nat.mul_comm, Nat.mul_add_div (by omega), Nat.div_eq_of_lt hj]; omega
      have hm : (c * f x.2 + j) % f x.2 = j := by rw [Nat.mul_comm, Nat.mul_add_mod, Nat.mod_eq_of_lt hj]
      simp only [hd, hm]
    · rw [if_neg hc] at h ⊢
      obtain ⟨h1, h2⟩ := rankS_spec g f hg L (o + x.1) (c - x.1) t h j hj
      refine ⟨by omega, ?_⟩
      rw [List.getElem?_append_right (by omega), hl, show x.1 * f x.2 + rankS f (c - x.1) L + j - x.1 * f x.2 = rankS f (c - x.1) L + j by omega, h2, show o + x.1 + (c - x.1) = o + c by omega]
/-- The state to which a course leads. -/
def runN (H : HV) : St → List Nat → Option St
  | s, [] => some s
  | s, c :: L => match pick (brs H s) c with | some t => runN H t L | none => none
/-- The number of a course. -/
def rankN (H : HV) (P : St → Bool) : Nat → St → List Nat → Nat
  | k + 1, s, c :: L => match pick (brs H s) c with | some t => rankS (cnt H P k) c (brs H s) + rankN H P k t L | none => 0
  | _, _, _ => 0
theorem rank_spec (H : HV) (P : St → Bool) : ∀ (k : Nat) (s : St) (L : List Nat) (t : St), L.length = k → runN H s L = some t → P t = true → rankN H P k s L < cnt H P k s ∧ (crs H P k s)[rankN H P k s L]? = some L
  | 0, s, [], t, _, h, hP => by
    simp only [runN, Option.some.injEq] at h
    subst h
    simp [rankN, cnt, crs, hP]
  | k + 1, s, c :: L, t, hl, h, hP => by
    simp only [runN] at h
    simp only [rankN]
    cases hp : pick (brs H s) c with
    | none => rw [hp] at h; cases h
    | some u =>
      rw [hp] at h
      obtain ⟨h1, h2⟩ := rank_spec H P k u L t (by simpa using hl) h hP
      obtain ⟨h3, h4⟩ := rankS_spec (fun c t => (crs H P k t).map (c :: ·)) (cnt H P k) (fun c t => by simp [cnt]) (brs H s) 0 c u hp _ h1
      refine ⟨h3, ?_⟩
      show (runsF _ _ _)[_]? = _
      simp only []
      rw [h4, List.getElem?_map, h2]
      simp
  | 0, s, c :: L, t, hl, _, _ => by simp at hl
  | k + 1, s, [], t, hl, _, _ => by simp at hl
/-- Each of the courses leads to a state with P. -/
theorem crs_run (H : HV) (P : St → Bool) : ∀ (k : Nat) (s : St) (L : List Nat), L ∈ crs H P k s → L.length = k ∧ ∃ t, runN H s L = some t ∧ P t = true
  | 0, s, L, h => by
    unfold crs at h
    split at h
    · rename_i hP
      have : L = [] := by simpa using h
      subst this
      exact ⟨rfl, s, rfl, hP⟩
    · cases h
  | k + 1, s, L, h => by
    obtain ⟨i, hi, hL⟩ := List.mem_iff_getElem.1 h
    have hlt : i < (runsF (fun c t => (crs H P k t).map (c :: ·)) 0 (brs H s)).length := hi
    obtain ⟨c, j, t, _, hj, _, _, hp, hg⟩ := nthS_spec (fun c t => (crs H P k t).map (c :: ·)) (cnt H P k) (fun c t => by simp [cnt]) (brs H s) 0 i hlt
    have hL' : (runsF (fun c t => (crs H P k t).map (c :: ·)) 0 (brs H s))[i]? = some L := List.getElem?_eq_some_iff.2 ⟨hi, hL⟩
    rw [hg, List.getElem?_map, List.getElem?_eq_getElem (show j < (crs H P k t).length from hj)] at hL'
    simp only [Option.map_some, Option.some.injEq] at hL'
    obtain ⟨h1, u, h2, h3⟩ := crs_run H P k t _ (List.getElem_mem (show j < (crs H P k t).length from hj))
    rw [← hL']
    refine ⟨by simp [h1], u, ?_, h3⟩
    simp only [runN]
    rw [Nat.sub_zero] at hp
    rw [hp]
    exact h2
end Go.Proofs.Ytmjnelkeiogdcaa
/- The plain law of hands: the course with a number; the order of the courses; counts that are cut off. -/
namespace Go.Proofs.Ytmjnelkeiogdcaa
open Go
set_option maxRecDepth 100000

/-- The course with a number. -/
def nthN (H : HV) (P : St → Bool) : Nat → St → Nat → List Nat
  | 0, _, _ => []
  | k + 1, s, i => match nthS (cnt H P k) 0 i (brs H s) with | some (c, j, t) => c :: nthN H P k t j | none => []
theorem nth_spec (H : HV) (P : St → Bool) : ∀ (k : Nat) (s : St) (i : Nat), i < cnt H P k s → (crs H P k s)[i]? = some (nthN H P k s i)
  | 0, s, i, h => by
    unfold cnt crs at h
    unfold crs nthN
    split
    · rename_i hP
      rw [if_pos hP] at h
      have : i = 0 := by simpa using h
      subst this
      rfl
    · rename_i hP
      rw [if_neg hP] at h
      simp at h
  | k + 1, s, i, h => by
    have hlt : i < (runsF (fun c t => (crs H P k t).map (c :: ·)) 0 (brs H s)).length := h
    obtain ⟨c, j, t, h1, h2, _, _, _, h5⟩ := nthS_spec (fun c t => (crs H P k t).map (c :: ·)) (cnt H P k) (fun c t => by simp [cnt]) (brs H s) 0 i hlt
    rw [crs, nthN, h1, h5, List.getElem?_map, nth_spec H P k t j h2]
    rfl
/-- Ahead in the order. -/
def lexL : List Nat → List Nat → Prop
  | a :: A, b :: B => a < b ∨ (a = b ∧ lexL A B)
  | _, _ => False
theorem range_sorted {β : Type} (R : β → β → Prop) (g : Nat → List β) (h1 : ∀ i, (g i).Pairwise R) (h2 : ∀ i j, i < j → ∀ x ∈ g i, ∀ y ∈ g j, R x y) : ∀ m, ((List.range m).flatMap g).Pairwise R
  | 0 => by simp
  | m + 1 => by
    rw [List.range_succ, List.flatMap_append, List.flatMap_cons, List.flatMap_nil, List.append_nil, List.pairwise_append]
    refine ⟨range_sorted R g h1 h2 m, h1 m, fun x hx y hy => ?_⟩
    obtain ⟨i, hi, hx⟩ := List.mem_flatMap.1 hx
    exact h2 i m (List.mem_range.1 hi) x hx y hy
theorem runs_head (f : Nat → St → List (List Nat)) : ∀ (L : List (Nat × St)) (o : Nat) (l : List Nat), l ∈ runsF (fun c t => (f c t).map (c :: ·)) o L → ∃ c A, l = c :: A ∧ o ≤ c
  | [], o, l, h => by cases h
  | x :: L, o, l, h => by
    unfold runsF at h
    rcases List.mem_append.1 h with h | h
    · obtain ⟨i, _, h⟩ := List.mem_flatMap.1 h
      obtain ⟨A, _, rfl⟩ := List.mem_map.1 h
      exact ⟨_, _, rfl, by omega⟩
    · obtain ⟨c, A, h1, h2⟩ := runs_head f L _ l h
      exact ⟨c, A, h1, by omega⟩
theorem map_sorted (c : Nat) (L : List (List Nat)) (h : L.Pairwise lexL) : (L.map (c :: ·)).Pairwise lexL := by
  rw [List.pairwise_map]
  exact h.imp fun h => .inr ⟨rfl, h⟩
theorem runs_sorted (f : Nat → St → List (List Nat)) (hf : ∀ c t, (f c t).Pairwise lexL) : ∀ (L : List (Nat × St)) (o : Nat), (runsF (fun c t => (f c t).map (c :: ·)) o L).Pairwise lexL
  | [], o => by simp [runsF]
  | x :: L, o => by
    unfold runsF
    rw [List.pairwise_append]
    refine ⟨range_sorted lexL _ (fun i => map_sorted _ _ (hf _ _)) (fun i j hij a ha b hb => ?_) _, runs_sorted f hf L _, fun a ha b hb => ?_⟩
    · obtain ⟨A, _, rfl⟩ := List.mem_map.1 ha
      obtain ⟨B, _, rfl⟩ := List.mem_map.1 hb
      exact .inl (by omega)
    · obtain ⟨i, hi, ha⟩ := List.mem_flatMap.1 ha
      obtain ⟨A, _, rfl⟩ := List.mem_map.1 ha
      obtain ⟨c, B, rfl, h2⟩ := runs_head f L _ b hb
      exact .inl (by have := List.mem_range.1 hi; omega)
theorem crs_sorted (H : HV) (P : St → Bool) : ∀ (k : Nat) (s : St), (crs H P k s).Pairwise lexL
  | 0, s => by unfold crs; split <;> simp
  | k + 1, s => by
    rw [crs]
    exact runs_sorted (fun _ t => crs H P k t) (fun _ t => crs_sorted H P k t) _ _
/-- A count that is cut off at 10^15 + 1. -/
def satN (n : Nat) : Nat := if n ≤ 1000000000000000 then n else 1000000000000001
theorem satN_le (n : Nat) : satN n ≤ 1000000000000001 := by unfold satN; split <;> omega
theorem satN_small (n : Nat) : satN n ≤ 1000000000000000 ↔ n ≤ 1000000000000000 := by unfold satN; split <;> omega
theorem satN_id (n : Nat) (h : n ≤ 1000000000000000) : satN n = n := by unfold satN; rw [if_pos h]
theorem sat_times (a b : Nat) : timesN (satN a) b = satN (a * b) := by
  unfold timesN
  rcases Nat.eq_zero_or_pos b with hb | hb
  · subst hb
    rw [if_neg (by omega)]
    simp [satN]
  · by_cases ha : a ≤ 1000000000000000
    · rw [satN_id a ha]
      unfold satN
      by_cases h : 1000000000000000 / b < a
      · have h' := (Nat.div_lt_iff_lt_mul hb).1 h
        rw [if_pos ⟨hb, h⟩, if_neg (by omega)]
      · have h' := mt (Nat.div_lt_iff_lt_mul hb).2 h
        rw [if_neg (by omega), if_pos (by omega)]
    · have e : satN a = 1000000000000001 := by unfold satN; rw [if_neg ha]
      have h1 : 1000000000000000 / b ≤ 1000000000000000 := Nat.div_le_self _ _
      rw [e, if_pos ⟨hb, by omega⟩]
      have h2 : a * 1 ≤ a * b := Nat.mul_le_mul_left a hb
      unfold satN
      rw [if_neg (by omega)]
theorem sat_add (a b : Nat) : min (satN a + satN b) 1000000000000001 = satN (a + b) := by unfold satN; split <;> split <;> split <;> omega
/-- No state that is reached, and from which a step is left, is without a choice. -/
def Last (H : HV) (s : St) : Prop := ∀ k t, Reach H s k t → dep t ≠ 0 → 0 < chN H t
theorem reach_trans (H : HV) (s : St) (w : Nat) (t : St) (h : (w, t) ∈ brs H s) : ∀ k u, Reach H t k u → Reach H s (k + 1) u
  | 0, u, e => ⟨s, rfl, w, by have e' : u = t := e; rw [e']; exact h⟩
  | k + 1, u, ⟨v, hv, w', hw⟩ => ⟨v, reach_trans H s w t h k v hv, w', hw⟩
theorem Last.step {H : HV} {s t : St} {w : Nat} (h : Last H s) (hm : (w, t) ∈ brs H s) : Last H t := fun k u hu hd => h (k + 1) u (reach_trans H s w t hm k u hu) hd
theorem Last.self {H : HV} {s : St} (h : Last H s) (hd : dep s ≠ 0) : 0 < chN H s := h 0 s rfl hd
theorem dep_zero {H : HV} {s : St} (hF : Fit H s) (h : dep s = 0) : brs H s = [] := by
  cases hb : brs H s with
  | nil => rfl
  | cons x L =>
    have := (step_fit H s hF x (by rw [hb]; simp)).2
    omega
theorem chN_sum (H : HV) (s : St) : chN H s = sumW (brs H s) := rfl
/-- Courses with an outcome; all of them at a negative one. -/
def okO (H : HV) (o : Int) (t : St) : Bool := decide (o < 0) || decide (o = outN H t)
def cntO (H : HV) (o : Int) (s : St) : Nat := cnt H (okO H o) (dep s) s
theorem cntO_zero (H : HV) (o : Int) (s : St) (h : dep s = 0) : cntO H o s = if okO H o s then 1 else 0 := by
  unfold cntO
  rw [h]
  exact cnt_zero H _ s
theorem cntO_succ (H : HV) (o : Int) (s : St) (hF : Fit H s) (h : dep s ≠ 0) : cntO H o s = ((brs H s).map fun x => x.1 * cntO H o x.2).sum := by
  unfold cntO
  obtain ⟨k, hk⟩ : ∃ k, dep s = k + 1 := ⟨dep s - 1, by omega⟩
  rw [hk, cnt_succ]
  congr 1
  refine List.map_congr_left fun x hx => ?_
  have := (step_fit H s hF x hx).2
  rw [show dep x.2 = k by omega]
end Go.Proofs.Ytmjnelkeiogdcaa
/- The plain law of hands: common denominators and weights. -/
namespace Go.Proofs.Ytmjnelkeiogdcaa
open Go
set_option maxRecDepth 100000

theorem times_sat (a b : Nat) : timesN a b = satN (a * b) := by
  unfold timesN satN
  rcases Nat.eq_zero_or_pos b with hb | hb
  · subst hb; simp
  · have h := Nat.div_lt_iff_lt_mul (x := 1000000000000000) (y := a) hb
    by_cases h1 : 1000000000000000 / b < a
    · rw [if_pos ⟨hb, h1⟩, if_neg (by have := h.1 h1; omega)]
    · rw [if_neg (by omega), if_pos (by have := mt h.2 h1; omega)]
theorem sat_mul (a b : Nat) : satN (satN a * b) = satN (a * b) := by rw [← times_sat, sat_times]
theorem sat_mul' (a b : Nat) : satN (a * satN b) = satN (a * b) := by rw [Nat.mul_comm, sat_mul, Nat.mul_comm]
theorem sat_sat (a : Nat) : satN (satN a) = satN a := by unfold satN; split <;> simp
/-- The least common multiple of those that are not 0. -/
def lcmL : List Nat → Nat
  | [] => 1
  | c :: L => if 0 < c then Nat.lcm c (lcmL L) else lcmL L
theorem lcmL_dvd : ∀ (L : List Nat) (m : Nat), lcmL L ∣ m ↔ ∀ c ∈ L, 0 < c → c ∣ m
  | [], m => by simp [lcmL]
  | c :: L, m => by
    unfold lcmL
    by_cases h : 0 < c
    · rw [if_pos h]
      constructor
      · intro hd x hx h0
        rcases List.mem_cons.1 hx with rfl | hx
        · exact Nat.dvd_trans (Nat.dvd_lcm_left _ _) hd
        · exact (lcmL_dvd L m).1 (Nat.dvd_trans (Nat.dvd_lcm_right _ _) hd) x hx h0
      · intro hd
        exact Nat.lcm_dvd (hd c (by simp) h) ((lcmL_dvd L m).2 fun x hx h0 => hd x (by simp [hx]) h0)
    · rw [if_neg h, lcmL_dvd L m]
      constructor
      · intro hd x hx h0
        rcases List.mem_cons.1 hx with rfl | hx
        · exact absurd h0 h
        · exact hd x hx h0
      · exact fun hd x hx h0 => hd x (by simp [hx]) h0
theorem lcmL_congr (L M : List Nat) (h : ∀ c, 0 < c → (c ∈ L ↔ c ∈ M)) : lcmL L = lcmL M :=
  Nat.dvd_antisymm ((lcmL_dvd L _).2 fun c hc h0 => (lcmL_dvd M _).1 (Nat.dvd_refl _) c ((h c h0).1 hc) h0)
    ((lcmL_dvd M _).2 fun c hc h0 => (lcmL_dvd L _).1 (Nat.dvd_refl _) c ((h c h0).2 hc) h0)
theorem lcmL_mem (L : List Nat) (c : Nat) (hc : c ∈ L) (h0 : 0 < c) : c ∣ lcmL L := (lcmL_dvd L _).1 (Nat.dvd_refl _) c hc h0
theorem lcmL_pos : ∀ (L : List Nat), 0 < lcmL L
  | [] => by simp [lcmL]
  | c :: L => by
    unfold lcmL
    split
    · rename_i h; exact Nat.lcm_pos h (lcmL_pos L)
    · exact lcmL_pos L
theorem lcmL_snoc (L : List Nat) (c : Nat) (h : 0 < c) : lcmL (L ++ [c]) = Nat.lcm (lcmL L) c := by
  have e : lcmL (L ++ [c]) = lcmL (c :: L) := lcmL_congr _ _ fun x _ => by simp [or_comm]
  rw [e]
  show (if 0 < c then Nat.lcm c (lcmL L) else lcmL L) = _
  rw [if_pos h, Nat.lcm_comm]
theorem lcmL_snoc0 (L : List Nat) : lcmL (L ++ [0]) = lcmL L := lcmL_congr _ _ fun x hx => by simp; omega
/-- One step of the common denominator. -/
theorem lcm_step (L : List Nat) (c : Nat) (h : 0 < c) (hs : lcmL L ≤ 1000000000000000) : timesN (satN (lcmL L)) (c / Nat.gcd (satN (lcmL L)) c) = satN (lcmL (L ++ [c])) := by
  rw [satN_id _ hs, times_sat, lcmL_snoc L c h]
  congr 1
  unfold Nat.lcm
  exact (Nat.mul_div_assoc _ (Nat.gcd_dvd_right _ _)).symm
theorem lcmL_le (L M : List Nat) (h : ∀ c ∈ L, c ∈ M) : lcmL L ≤ lcmL M :=
  Nat.le_of_dvd (lcmL_pos M) ((lcmL_dvd L _).2 fun c hc h0 => lcmL_mem M c (h c hc) h0)
/-- The states that are reached in k steps, with those that are reached twice. -/
def lay (H : HV) (s0 : St) : Nat → List St
  | 0 => [s0]
  | k + 1 => (lay H s0 k).flatMap fun s => (brs H s).map Prod.snd
theorem mem_lay (H : HV) (s0 : St) : ∀ k t, t ∈ lay H s0 k ↔ Reach H s0 k t
  | 0, t => by simp [lay, Reach]
  | k + 1, t => by
    unfold lay Reach
    rw [List.mem_flatMap]
    constructor
    · rintro ⟨s, hs, ht⟩
      obtain ⟨x, hx, rfl⟩ := List.mem_map.1 ht
      exact ⟨s, (mem_lay H s0 k s).1 hs, x.1, hx⟩
    · rintro ⟨s, hs, w, hw⟩
      exact ⟨s, (mem_lay H s0 k s).2 hs, List.mem_map.2 ⟨_, hw, rfl⟩⟩
/-- The common denominator of a step. -/
def comK (H : HV) (s0 : St) (k : Nat) : Nat := lcmL ((lay H s0 k).map (chN H))
/-- The weight of the courses at whose end P holds, by the denominators of the steps. -/
def wtU (H : HV) (P : St → Bool) : List Nat → St → Nat
  | [], s => if P s then 1 else 0
  | c :: cs, s => ((brs H s).map fun x => c / chN H s * x.1 * wtU H P cs x.2).sum
/-- The denominators of the steps from number k on. -/
def comL (H : HV) (s0 : St) : Nat → Nat → List Nat
  | _, 0 => []
  | k, m + 1 => comK H s0 k :: comL H s0 (k + 1) m
def prodL : List Nat → Nat
  | [] => 1
  | c :: L => c * prodL L
theorem sum_map_add {α : Type} (f g : α → Nat) (L : List α) : (L.map fun x => f x + g x).sum = (L.map f).sum + (L.map g).sum := by
  induction L with
  | nil => rfl
  | cons x L ih => simp only [List.map_cons, List.sum_cons, ih]; omega
theorem sum_map_mul {α : Type} (f : α → Nat) (c : Nat) (L : List α) : (L.map fun x => c * f x).sum = c * (L.map f).sum := by
  induction L with
  | nil => rfl
  | cons x L ih => simp only [List.map_cons, List.sum_cons, ih, Nat.mul_add]
theorem sum_map_mul' {α : Type} (f : α → Nat) (c : Nat) (L : List α) : (L.map fun x => f x * c).sum = (L.map f).sum * c := by
  induction L with
  | nil => simp
  | cons x L ih => simp only [List.map_cons, List.sum_cons, ih, Nat.add_mul]
theorem sum_map_zero {α : Type} (L : List α) : (L.map fun _ => 0).sum = 0 := by
  induction L with
  | nil => rfl
  | cons x L ih => simp [ih]
theorem sum_map_congr {α : Type} (f g : α → Nat) (L : List α) (h : ∀ x ∈ L, f x = g x) : (L.map f).sum = (L.map g).sum := by rw [List.map_congr_left h]
/-- What has come to a key. -/
def sumAt (ps : List (St × Nat)) (t : St) : Nat := (ps.map fun p => if p.1 = t then p.2 else 0).sum
theorem sumAt_append (ps qs : List (St × Nat)) (t : St) : sumAt (ps ++ qs) t = sumAt ps t + sumAt qs t := by simp [sumAt]
theorem sum_one (Ls : List St) (h : Ls.Nodup) (q : St) (hq : q ∈ Ls) (f : St → Nat) : (Ls.map fun t => if q = t then f t else 0).sum = f q := by
  induction Ls with
  | nil => cases hq
  | cons x L ih =>
    obtain ⟨h1, h2⟩ := List.nodup_cons.1 h
    rw [List.map_cons, List.sum_cons]
    by_cases e : q = x
    · subst e
      rw [if_pos rfl, sum_map_congr _ (fun _ => 0) L fun t ht => if_neg fun e => h1 (by rw [e]; exact ht), sum_map_zero, Nat.add_zero]
    · rw [if_neg e, Nat.zero_add]
      exact ih h2 ((List.mem_cons.1 hq).resolve_left e)
theorem fiber_sum (Ls : List St) (h : Ls.Nodup) (g : St → Nat) : ∀ (ps : List (St × Nat)), (∀ p ∈ ps, p.1 ∈ Ls) → (Ls.map fun t => sumAt ps t * g t).sum = (ps.map fun p => p.2 * g p.1).sum
  | [], _ => by simp [sumAt, sum_map_zero]
  | p :: ps, hp => by
    have e : ∀ t, sumAt (p :: ps) t * g t = (if p.1 = t then p.2 * g t else 0) + sumAt ps t * g t := fun t => by
      unfold sumAt
      rw [List.map_cons, List.sum_cons, Nat.add_mul]
      congr 1
      split <;> simp
    rw [sum_map_congr _ _ Ls fun t _ => e t, sum_map_add, fiber_sum Ls h g ps fun q hq => hp q (by simp [hq]), sum_one Ls h p.1 (hp p (by simp)) (fun t => p.2 * g t), List.map_cons, List.sum_cons]
/-- The parts that come to the states of the next step. -/
def partsL (H : HV) (c : Nat) (W : St → Nat) (Ls : List St) : List (St × Nat) := Ls.flatMap fun s => (brs H s).map fun x => (x.2, W s * (c / chN H s) * x.1)
theorem flat_sum {α β : Type} (f : β → Nat) (g : α → List β) (L : List α) : ((L.flatMap g).map f).sum = (L.map fun x => ((g x).map f).sum).sum := by
  induction L with
  | nil => rfl
  | cons x L ih => rw [List.flatMap_cons, List.map_append, List.sum_append, ih, List.map_cons, List.sum_cons]
/-- A step leaves the weights that come to the end as they are. -/
theorem parts_wt (H : HV) (P : St → Bool) (c : Nat) (cs : List Nat) (W : St → Nat) (Ls Lt : List St) (hn : Lt.Nodup) (hLt : ∀ s ∈ Ls, ∀ x ∈ brs H s, x.2 ∈ Lt) :
    (Lt.map fun t => sumAt (partsL H c W Ls) t * wtU H P cs t).sum = (Ls.map fun s => W s * wtU H P (c :: cs) s).sum := by
  rw [fiber_sum Lt hn _ _ fun p hp => by
    obtain ⟨s, hs, hp⟩ := List.mem_flatMap.1 hp
    obtain ⟨x, hx, rfl⟩ := List.mem_map.1 hp
    exact hLt s hs x hx]
  unfold partsL
  rw [flat_sum]
  refine sum_map_congr _ _ _ fun s _ => ?_
  rw [List.map_map]
  show _ = W s * ((brs H s).map fun x => c / chN H s * x.1 * wtU H P cs x.2).sum
  rw [← sum_map_mul]
  refine sum_map_congr _ _ _ fun x _ => ?_
  simp only [Function.comp]
  rw [Nat.mul_assoc, Nat.mul_assoc, Nat.mul_assoc]
/-- .. and all of them together are as many as the denominator says. -/
theorem parts_sum (H : HV) (c : Nat) (W : St → Nat) (Ls Lt : List St) (hn : Lt.Nodup) (hLt : ∀ s ∈ Ls, ∀ x ∈ brs H s, x.2 ∈ Lt) (hc : ∀ s ∈ Ls, chN H s ∣ c) (hp : ∀ s ∈ Ls, 0 < chN H s) :
    (Lt.map fun t => sumAt (partsL H c W Ls) t).sum = c * (Ls.map W).sum := by
  have h := fiber_sum Lt hn (fun _ => 1) (partsL H c W Ls) fun p hp => by
    obtain ⟨s, hs, hp⟩ := List.mem_flatMap.1 hp
    obtain ⟨x, hx, rfl⟩ := List.mem_map.1 hp
    exact hLt s hs x hx
  simp only [Nat.mul_one] at h
  rw [h]
  unfold partsL
  rw [flat_sum, ← sum_map_mul]
  refine sum_map_congr _ _ _ fun s hs => ?_
  rw [List.map_map]
  have e : ((brs H s).map ((fun p : St × Nat => p.2) ∘ fun x => (x.2, W s * (c / chN H s) * x.1))).sum = W s * (c / chN H s) * chN H s := by
    unfold chN
    rw [← sum_map_mul]
    rfl
  rw [e, Nat.mul_assoc, Nat.div_mul_cancel (hc s hs), Nat.mul_comm]
end Go.Proofs.Ytmjnelkeiogdcaa
/- The plain law of hands: courses that are followed; all courses made longer step by step. -/
namespace Go.Proofs.Ytmjnelkeiogdcaa
open Go
set_option maxRecDepth 100000

theorem run_append (H : HV) : ∀ (L M : List Nat) (s t : St), runN H s L = some t → runN H s (L ++ M) = runN H t M
  | [], M, s, t, h => by
    simp only [runN, Option.some.injEq] at h
    subst h
    rfl
  | c :: L, M, s, t, h => by
    simp only [runN, List.cons_append] at h ⊢
    cases hp : pick (brs H s) c with
    | none => rw [hp] at h; cases h
    | some u => rw [hp] at h; exact run_append H L M u t h
theorem run_fit (H : HV) : ∀ (L : List Nat) (s t : St), Fit H s → runN H s L = some t → Fit H t ∧ dep t + L.length = dep s
  | [], s, t, hF, h => by
    simp only [runN, Option.some.injEq] at h
    subst h
    exact ⟨hF, rfl⟩
  | c :: L, s, t, hF, h => by
    simp only [runN] at h
    cases hp : pick (brs H s) c with
    | none => rw [hp] at h; cases h
    | some u =>
      rw [hp] at h
      obtain ⟨w, hw⟩ := pick_mem _ _ _ hp
      obtain ⟨h1, h2⟩ := step_fit H s hF _ hw
      obtain ⟨h3, h4⟩ := run_fit H L u t h1 h
      exact ⟨h3, by simp only [List.length_cons]; simp only at h2; omega⟩
theorem Last.run {H : HV} : ∀ (L : List Nat) {s t : St}, Last H s → runN H s L = some t → Last H t
  | [], s, t, hl, h => by
    simp only [runN, Option.some.injEq] at h
    subst h
    exact hl
  | c :: L, s, t, hl, h => by
    simp only [runN] at h
    cases hp : pick (brs H s) c with
    | none => rw [hp] at h; cases h
    | some u =>
      rw [hp] at h
      obtain ⟨w, hw⟩ := pick_mem _ _ _ hp
      exact Last.run L (hl.step hw) h
/-- In such a hand a state is complete just if no step is left. -/
theorem Last.zero {H : HV} {s : St} (h : Last H s) (hF : Fit H s) : chN H s = 0 ↔ dep s = 0 :=
  ⟨fun h0 => Classical.byContradiction fun hd => by have := h.self hd; omega, fun hd => by rw [chN_sum, dep_zero hF hd]; rfl⟩
/-- What becomes of a course: its last state; or where it is refused, and the error. -/
inductive FR where
  | ok (s : St)
  | bad (i e : Nat)
/-- A course of any numbers is followed. -/
def folN (H : HV) : St → List Int → Nat → FR
  | s, [], _ => .ok s
  | s, c :: L, i => if chN H s = 0 then .bad i 5 else if c < 0 then .bad i 20 else match pick (brs H s) c.toNat with | none => .bad i 20 | some t => folN H t L (i + 1)
/-- .. and must be complete. -/
def fulN (H : HV) (s : St) (L : List Int) : FR := match folN H s L 0 with
  | .ok t => if chN H t = 0 then .ok t else .bad L.length 7
  | .bad i e => .bad i e
theorem fol_run (H : HV) : ∀ (L : List Nat) (s : St) (i : Nat) (t : St), folN H s (L.map fun c => ((c : Nat) : Int)) i = .ok t ↔ runN H s L = some t
  | [], s, i, t => by simp [folN, runN]
  | c :: L, s, i, t => by
    simp only [List.map_cons, folN, runN]
    by_cases h0 : chN H s = 0
    · rw [if_pos h0, pick_none (brs H s) c (by rw [← chN_sum]; omega)]
      simp
    · rw [if_neg h0, if_neg (by omega), Int.toNat_natCast]
      cases hp : pick (brs H s) c with
      | none => simp
      | some u => exact fol_run H L u (i + 1) t
/-- A course that is followed to its end has numbers that are not negative. -/
theorem fol_nat (H : HV) : ∀ (L : List Int) (s : St) (i : Nat) (t : St), folN H s L i = .ok t → ∃ M : List Nat, L = M.map fun c => ((c : Nat) : Int)
  | [], s, i, t, _ => ⟨[], rfl⟩
  | c :: L, s, i, t, h => by
    unfold folN at h
    split at h
    · cases h
    · split at h
      · cases h
      · cases hp : pick (brs H s) c.toNat with
        | none => rw [hp] at h; cases h
        | some u =>
          rw [hp] at h
          obtain ⟨M, hM⟩ := fol_nat H L u (i + 1) t h
          exact ⟨c.toNat :: M, by rw [hM, List.map_cons]; congr 1; omega⟩
theorem runsF_congr' {β : Type} (g g' : Nat → St → List β) : ∀ (L : List (Nat × St)) (o : Nat), (∀ c t, o ≤ c → pick L (c - o) = some t → g c t = g' c t) → runsF g o L = runsF g' o L
  | [], _, _ => rfl
  | x :: L, o, h => by
    unfold runsF
    rw [runsF_congr' g g' L (o + x.1) fun c t hc hp => h c t (by omega) (by
      unfold pick
      rw [if_neg (by omega), show c - o - x.1 = c - (o + x.1) by omega]
      exact hp)]
    congr 1
    refine flat_congr _ _ _ fun i hi => ?_
    have hi' := List.mem_range.1 hi
    refine h (o + i) x.2 (by omega) ?_
    unfold pick
    rw [if_pos (by omega)]
where
  flat_congr {α β : Type} (f f' : α → List β) : ∀ (L : List α), (∀ x ∈ L, f x = f' x) → L.flatMap f = L.flatMap f'
    | [], _ => rfl
    | x :: L, h => by rw [List.flatMap_cons, List.flatMap_cons, h x (by simp), flat_congr f f' L fun y hy => h y (by simp [hy])]
theorem flat_flat {α β γ : Type} (f : α → List β) (F : β → List γ) : ∀ (L : List α), (L.flatMap f).flatMap F = L.flatMap fun x => (f x).flatMap F
  | [] => rfl
  | x :: L => by rw [List.flatMap_cons, List.flatMap_append, List.flatMap_cons, flat_flat f F L]
theorem runsF_flat {β γ : Type} (g : Nat → St → List β) (F : β → List γ) : ∀ (L : List (Nat × St)) (o : Nat), (runsF g o L).flatMap F = runsF (fun c t => (g c t).flatMap F) o L
  | [], _ => rfl
  | x :: L, o => by
    unfold runsF
    rw [List.flatMap_append, runsF_flat g F L, flat_flat]
theorem filter_flat {α β : Type} (p : β → Bool) (f : α → List β) : ∀ (L : List α), (L.flatMap f).filter p = L.flatMap fun x => (f x).filter p
  | [] => rfl
  | x :: L => by rw [List.flatMap_cons, List.filter_append, List.flatMap_cons, filter_flat p f L]
theorem runsF_filter {β : Type} (g : Nat → St → List β) (p : β → Bool) : ∀ (L : List (Nat × St)) (o : Nat), (runsF g o L).filter p = runsF (fun c t => (g c t).filter p) o L
  | [], _ => rfl
  | x :: L, o => by
    unfold runsF
    rw [List.filter_append, runsF_filter g p L, filter_flat]
theorem runsF_const {β : Type} (g : Nat → List β) : ∀ (L : List (Nat × St)) (o : Nat), runsF (fun c _ => g c) o L = (List.range (sumW L)).flatMap fun i => g (o + i)
  | [], _ => by simp [runsF, sumW]
  | x :: L, o => by
    unfold runsF
    rw [runsF_const g L, sumW_cons, List.range_add, List.flatMap_append, List.flatMap_map]
    congr 2
    funext i
    rw [Nat.add_assoc]
/-- The end of a course has P. -/
def endP (H : HV) (s : St) (P : St → Bool) (L : List Nat) : Bool := match runN H s L with | some t => P t | none => false
def anyS : St → Bool := fun _ => true
theorem crs_filter (H : HV) (P : St → Bool) : ∀ (k : Nat) (s : St), crs H P k s = (crs H anyS k s).filter (endP H s P)
  | 0, s => by
    unfold crs
    cases hP : P s <;> simp [anyS, endP, runN, hP]
  | k + 1, s => by
    unfold crs
    rw [runsF_filter]
    refine runsF_congr' _ _ _ _ fun c t _ hp => ?_
    rw [List.filter_map, crs_filter H P k t]
    congr 2
    funext A
    rw [Nat.sub_zero] at hp
    simp only [Function.comp, endP, runN, hp]
/-- How many choices there are behind a course. -/
def chE (H : HV) (s : St) (L : List Nat) : Nat := match runN H s L with | some t => chN H t | none => 0
/-- All courses, each made longer by one choice. -/
theorem crs_snoc (H : HV) : ∀ (k : Nat) (s : St), crs H anyS (k + 1) s = (crs H anyS k s).flatMap fun p => (List.range (chE H s p)).map fun c => p ++ [c]
  | 0, s => by
    show runsF (fun c t => (crs H anyS 0 t).map (c :: ·)) 0 (brs H s) = (if anyS s then [[]] else []).flatMap _
    have e : (fun (c : Nat) (t : St) => (crs H anyS 0 t).map (c :: ·)) = fun c _ => [[c]] := by
      funext c t
      simp [crs, anyS]
    rw [e, runsF_const (fun c => [[c]])]
    simp only [anyS, if_true, List.flatMap_cons, List.flatMap_nil, List.append_nil, chE, runN, List.nil_append, Nat.zero_add]
    rw [← chN_sum]
    exact List.map_eq_flatMap.symm
  | k + 1, s => by
    rw [crs, show crs H anyS (k + 1) s = runsF (fun c t => (crs H anyS k t).map (c :: ·)) 0 (brs H s) from rfl, runsF_flat]
    refine runsF_congr' _ _ _ _ fun c t _ hp => ?_
    rw [Nat.sub_zero] at hp
    rw [crs_snoc H k t, List.map_flatMap, List.flatMap_map]
    congr 1
    funext p
    simp only [chE, runN, hp, List.map_map]
    rfl
theorem crs_zero (H : HV) (s : St) : crs H anyS 0 s = [[]] := rfl
end Go.Proofs.Ytmjnelkeiogdcaa
/- The plain law of hands: the state behind a course, as the document tells it, kind by kind. -/
namespace Go.Proofs.Ytmjnelkeiogdcaa
open Go
set_option maxRecDepth 100000

/-- The value of the face of a choice. -/
def shF : List (Nat × Nat) → Nat → Nat
  | [], _ => 0
  | f :: F, c => if c < f.2 then f.1 else shF F (c - f.2)
theorem pick_faces (g : Nat → St) : ∀ (F : List (Nat × Nat)) (c : Nat), pick (F.map fun f => (f.2, g f.1)) c = if c < (F.map Prod.snd).sum then some (g (shF F c)) else none
  | [], c => by simp [pick]
  | f :: F, c => by
    rw [List.map_cons]
    unfold pick shF
    rw [List.map_cons, List.sum_cons]
    by_cases h : c < f.2
    · rw [if_pos h, if_pos (by omega), if_pos h]
    · simp only [if_neg h]
      rw [pick_faces g F]
      by_cases h2 : c - f.2 < (F.map Prod.snd).sum
      · rw [if_pos h2, if_pos (by omega)]
      · rw [if_neg h2, if_neg (by omega)]
theorem pick_ones {α : Type} (g : α → St) : ∀ (L : List α) (c : Nat), pick (L.map fun i => (1, g i)) c = (L[c]?).map g
  | [], c => by simp [pick]
  | i :: L, 0 => by simp [pick]
  | i :: L, c + 1 => by
    rw [List.map_cons]
    unfold pick
    rw [if_neg (by omega), Nat.add_sub_cancel, pick_ones g L c]
    simp
/-- The sum of the faces of a course. -/
def sumF (F : List (Nat × Nat)) (L : List Nat) : Nat := (L.map (shF F)).sum
theorem run_thrown (H : HV) : ∀ (L : List Nat) (l k : Nat) (t : St), runN H (.thrown l k) L = some t → L.length ≤ l ∧ t = .thrown (l - L.length) (k + sumF H.faces L)
  | [], l, k, t, h => by
    simp only [runN, Option.some.injEq] at h
    subst h
    exact ⟨by simp, by simp [sumF]⟩
  | c :: L, l, k, t, h => by
    simp only [runN, brs] at h
    by_cases h0 : l = 0
    · rw [if_pos h0] at h; cases h
    · rw [if_neg h0, pick_faces (fun v => .thrown (l - 1) (k + v)) H.faces c] at h
      split at h
      · rename_i u hu
        split at hu
        · injection hu with hu
          subst hu
          obtain ⟨h1, h2⟩ := run_thrown H L _ _ t h
          refine ⟨by simp only [List.length_cons]; omega, ?_⟩
          rw [h2]
          unfold sumF
          rw [List.map_cons, List.sum_cons, List.length_cons, show l - 1 - L.length = l - (L.length + 1) by omega, Nat.add_assoc]
        · cases hu
      · cases h
theorem run_marked (H : HV) (hlo : 1 ≤ H.low) (L : List Nat) (t : St) (h : runN H (.marked 0) L = some t) : (L = [] ∧ t = .marked 0) ∨ ∃ c, L = [c] ∧ c < H.high + 1 - H.low ∧ t = .marked (H.low + c) := by
  cases L with
  | nil =>
    simp only [runN, Option.some.injEq] at h
    exact .inl ⟨rfl, h.symm⟩
  | cons c L =>
    simp only [runN, brs, if_true] at h
    rw [pick_ones (fun i => .marked (H.low + i)) (List.range (H.high + 1 - H.low)) c] at h
    split at h
    · rename_i u hu
      obtain ⟨i, hi, rfl⟩ := Option.map_eq_some_iff.1 hu
      obtain ⟨hc, hi⟩ := List.getElem?_eq_some_iff.1 hi
      rw [List.getElem_range] at hi
      subst hi
      rw [List.length_range] at hc
      cases L with
      | nil =>
        simp only [runN, Option.some.injEq] at h
        exact .inr ⟨c, rfl, hc, h.symm⟩
      | cons d L =>
        simp only [runN, brs] at h
        rw [if_neg (by omega)] at h
        cases h
    · cases h
/-- The stalks that are left. -/
def stkN (g : Nat) : List Nat → Nat → Nat
  | [], n => n
  | c :: L, n => stkN g L (leftN g n (c + 1))
theorem run_divided (H : HV) : ∀ (L : List Nat) (l n : Nat) (t : St), runN H (.divided l n) L = some t → L.length ≤ l ∧ t = .divided (l - L.length) (stkN H.group L n)
  | [], l, n, t, h => by
    simp only [runN, Option.some.injEq] at h
    subst h
    exact ⟨by simp, by simp [stkN]⟩
  | c :: L, l, n, t, h => by
    simp only [runN, brs] at h
    by_cases h0 : l = 0
    · rw [if_pos h0] at h; cases h
    · rw [if_neg h0, pick_ones (fun i => .divided (l - 1) (leftN H.group n (i + 1))) (List.range (n - 2)) c] at h
      split at h
      · rename_i u hu
        obtain ⟨i, hi, rfl⟩ := Option.map_eq_some_iff.1 hu
        obtain ⟨hc, hi⟩ := List.getElem?_eq_some_iff.1 hi
        rw [List.getElem_range] at hi
        subst hi
        obtain ⟨h1, h2⟩ := run_divided H L _ _ t h
        refine ⟨by simp only [List.length_cons]; omega, ?_⟩
        rw [h2, List.length_cons, show l - 1 - L.length = l - (L.length + 1) by omega]
        rfl
      · cases h
theorem run_cut (H : HV) (L : List Nat) (t : St) (h : runN H (.cut (-1)) L = some t) : (L = [] ∧ t = .cut (-1)) ∨ ∃ (c : Nat) (hc : c < H.cards.length), L = [c] ∧ t = .cut ((H.cards[c] : Nat) : Int) := by
  cases L with
  | nil =>
    simp only [runN, Option.some.injEq] at h
    exact .inl ⟨rfl, h.symm⟩
  | cons c L =>
    simp only [runN, brs] at h
    rw [if_neg (by omega), pick_ones (fun k : Nat => .cut ((k : Nat) : Int)) H.cards c] at h
    split at h
    · rename_i u hu
      obtain ⟨i, hi, rfl⟩ := Option.map_eq_some_iff.1 hu
      obtain ⟨hc, hi⟩ := List.getElem?_eq_some_iff.1 hi
      subst hi
      cases L with
      | nil =>
        simp only [runN, Option.some.injEq] at h
        exact .inr ⟨c, hc, rfl, h.symm⟩
      | cons d L =>
        simp only [runN, brs] at h
        rw [if_pos (by omega)] at h
        cases h
    · cases h
/-- The places of the cards that are left. -/
def restI (n g : Nat) : List Nat := (List.range n).filter fun i => !g.testBit i
theorem erase_filter : ∀ (L : List Nat), L.Nodup → ∀ (c : Nat) (hc : c < L.length), L.eraseIdx c = L.filter fun i => i != L[c]
  | [], _, c, hc => by simp at hc
  | x :: L, hnd, 0, hc => by
    obtain ⟨h1, h2⟩ := List.nodup_cons.1 hnd
    simp only [List.eraseIdx_cons_zero, List.getElem_cons_zero]
    rw [List.filter_cons]
    simp only [bne_self_eq_false, Bool.false_eq_true, if_false]
    exact (List.filter_eq_self.2 fun y hy => by
      have : y ≠ x := fun e => h1 (by rw [← e]; exact hy)
      simpa using this).symm
  | x :: L, hnd, c + 1, hc => by
    obtain ⟨h1, h2⟩ := List.nodup_cons.1 hnd
    have hc' : c < L.length := by simpa using hc
    simp only [List.eraseIdx_cons_succ, List.getElem_cons_succ]
    have hx : x ≠ L[c] := fun e => h1 (by rw [e]; exact List.getElem_mem hc')
    rw [List.filter_cons, if_pos (by simpa using hx), erase_filter L h2 c hc']
theorem map_erase (f : Nat → Nat) : ∀ (L : List Nat) (c : Nat), (L.eraseIdx c).map f = (L.map f).eraseIdx c
  | [], c => by simp
  | x :: L, 0 => by simp
  | x :: L, c + 1 => by
    rw [List.eraseIdx_cons_succ, List.map_cons, List.map_cons, List.eraseIdx_cons_succ, map_erase f L c]
theorem rest_nodup (n g : Nat) : (restI n g).Nodup := List.nodup_range.filter _
theorem rest_step (n g c : Nat) (hc : c < (restI n g).length) : restI n (g ||| 2 ^ (restI n g)[c]) = (restI n g).eraseIdx c := by
  have hn := rest_nodup n g
  rw [erase_filter _ hn c hc]
  generalize (restI n g)[c] = j
  unfold restI
  rw [List.filter_filter]
  congr 1
  funext i
  rw [Nat.testBit_or, Nat.testBit_two_pow]
  by_cases e : i = j
  · subst e; simp
  · have e' : ¬ j = i := fun h => e h.symm
    simp [e, e']
/-- The number of what is drawn, and the deck behind it. -/
def numD : List Nat → List Nat → Nat → Nat
  | _, [], k => k
  | D, c :: L, k => numD (D.eraseIdx c) L (k * 8 + D.getD c 0)
theorem run_drawn (H : HV) : ∀ (L : List Nat) (l g k : Nat) (t : St), runN H (.drawn l g k) L = some t →
    L.length ≤ l ∧ ∃ g', t = .drawn (l - L.length) g' (numD ((restI H.cards.length g).map fun i => H.cards.getD i 0) L k) ∧ (restI H.cards.length g').length + L.length = (restI H.cards.length g).length
  | [], l, g, k, t, h => by
    simp only [runN, Option.some.injEq] at h
    subst h
    exact ⟨by simp, g, by simp [numD], by simp⟩
  | c :: L, l, g, k, t, h => by
    simp only [runN, brs] at h
    by_cases h0 : l = 0
    · rw [if_pos h0] at h; cases h
    · rw [if_neg h0, pick_ones (fun i => .drawn (l - 1) (g ||| 2 ^ i) (k * 8 + H.cards.getD i 0)) _ c] at h
      split at h
      · rename_i u hu
        obtain ⟨i, hi, rfl⟩ := Option.map_eq_some_iff.1 hu
        obtain ⟨hc, hi⟩ := List.getElem?_eq_some_iff.1 hi
        have hc' : c < (restI H.cards.length g).length := hc
        have hi' : (restI H.cards.length g)[c] = i := hi
        obtain ⟨h1, g', h2, h3⟩ := run_drawn H L _ _ _ t h
        have hst := rest_step H.cards.length g c hc'
        rw [hi'] at hst
        rw [hst] at h2 h3
        rw [List.length_eraseIdx_of_lt hc'] at h3
        refine ⟨by simp only [List.length_cons]; omega, g', ?_, by simp only [List.length_cons]; omega⟩
        rw [h2, List.length_cons, show l - 1 - L.length = l - (L.length + 1) by omega]
        congr 1
        rw [numD, map_erase]
        congr 2
        simp only [List.getD_eq_getElem?_getD, List.getElem?_map, List.getElem?_eq_getElem hc', hi', Option.map_some, Option.getD_some]
      · cases h
end Go.Proofs.Ytmjnelkeiogdcaa
/- The plain law of hands: weights as the document counts them, course by course. -/
namespace Go.Proofs.Ytmjnelkeiogdcaa
open Go
set_option maxRecDepth 100000

/-- The weight of a course: the denominator, divided by the number of choices of each step. -/
def wR (H : HV) : Nat → St → List Nat → Nat
  | d, _, [] => d
  | d, s, c :: L => match pick (brs H s) c with | some t => wR H (d / chN H s) t L | none => 0
theorem sum_flat {α β : Type} (f : β → Nat) (g : α → List β) (L : List α) : ((L.flatMap g).map f).sum = (L.map fun x => ((g x).map f).sum).sum := flat_sum f g L
theorem runsF_sum {β : Type} (f : β → Nat) (g : Nat → St → List β) (h : St → Nat) : ∀ (L : List (Nat × St)) (o : Nat), (∀ c t, o ≤ c → pick L (c - o) = some t → ((g c t).map f).sum = h t) →
    ((runsF g o L).map f).sum = (L.map fun x => x.1 * h x.2).sum
  | [], _, _ => rfl
  | x :: L, o, hh => by
    unfold runsF
    rw [List.map_append, List.sum_append, runsF_sum f g h L (o + x.1) fun c t hc hp => hh c t (by omega) (by
      unfold pick
      rw [if_neg (by omega), show c - o - x.1 = c - (o + x.1) by omega]
      exact hp), List.map_cons, List.sum_cons]
    congr 1
    rw [sum_flat, sum_map_congr _ (fun _ => h x.2) _ fun i hi => hh (o + i) x.2 (by omega) (by
      have := List.mem_range.1 hi
      unfold pick
      rw [if_pos (by omega)])]
    clear hh
    generalize h x.2 = z
    generalize x.1 = m
    induction m with
    | zero => simp
    | succ m ih => rw [List.range_succ, List.map_append, List.sum_append, ih, Nat.add_mul]; simp
/-- Each choice of a step divides its denominator. -/
def Divs (H : HV) (s0 : St) : Prop := ∀ k s, Reach H s0 k s → dep s ≠ 0 → chN H s ∣ comK H s0 k
theorem divs_all (H : HV) (s0 : St) (hl : Last H s0) : Divs H s0 := fun k s hr hd =>
  lcmL_mem _ _ (List.mem_map.2 ⟨s, (mem_lay H s0 k s).2 hr, rfl⟩) (hl k s hr hd)
theorem crs_weights (H : HV) (s0 : St) (hF : Fit H s0) (hl : Last H s0) (P : St → Bool) : ∀ (m k : Nat) (s : St) (d : Nat), Reach H s0 k s → dep s = m →
    ((crs H P m s).map (wR H (d * prodL (comL H s0 k m)) s)).sum = d * wtU H P (comL H s0 k m) s
  | 0, k, s, d, _, _ => by
    simp only [comL, prodL, Nat.mul_one, crs, wtU]
    split <;> simp [wR]
  | m + 1, k, s, d, hr, hd => by
    have hdv := divs_all H s0 hl k s hr (by omega)
    have hpos := hl k s hr (by omega)
    have hfs := (reach_fit H s0 hF k s hr).1
    rw [crs]
    simp only [comL, prodL, wtU]
    rw [runsF_sum _ _ (fun t => d * (comK H s0 k / chN H s) * wtU H P (comL H s0 (k + 1) m) t) (brs H s) 0 fun c t _ hp => ?_]
    · rw [← sum_map_mul]
      refine sum_map_congr _ _ _ fun x _ => ?_
      rw [← Nat.mul_assoc, ← Nat.mul_assoc, ← Nat.mul_assoc, ← Nat.mul_assoc, Nat.mul_comm x.1 d, Nat.mul_assoc d x.1, Nat.mul_comm x.1, ← Nat.mul_assoc]
    · rw [Nat.sub_zero] at hp
      obtain ⟨w, hw⟩ := pick_mem _ _ _ hp
      have hst := (step_fit H s hfs _ hw).2
      have ih := crs_weights H s0 hF hl P m (k + 1) t (d * (comK H s0 k / chN H s)) ⟨s, hr, w, hw⟩ (by simp only at hst; omega)
      rw [List.map_map, ← ih]
      refine sum_map_congr _ _ _ fun A _ => ?_
      simp only [Function.comp, wR, hp]
      congr 1
      obtain ⟨q, hq⟩ := hdv
      rw [hq, Nat.mul_div_cancel_left q hpos, show d * (chN H s * q * prodL (comL H s0 (k + 1) m)) = chN H s * (d * q * prodL (comL H s0 (k + 1) m)) by
        rw [Nat.mul_assoc (chN H s), Nat.mul_left_comm, Nat.mul_assoc d], Nat.mul_div_cancel_left _ hpos]
/-- Each run of choices is one of at least one choice. -/
def Wide (H : HV) : Prop := ∀ f ∈ H.faces, 1 ≤ f.2
theorem wide_brs {H : HV} (h : Wide H) (s : St) : ∀ x ∈ brs H s, 1 ≤ x.1 := by
  intro x hx
  cases s with
  | thrown l k =>
    simp only [brs] at hx
    split at hx
    · cases hx
    · obtain ⟨f, hf, rfl⟩ := List.mem_map.1 hx
      exact h f hf
  | marked m =>
    simp only [brs] at hx
    split at hx
    · obtain ⟨i, _, rfl⟩ := List.mem_map.1 hx; exact Nat.le_refl _
    · cases hx
  | divided l n =>
    simp only [brs] at hx
    split at hx
    · cases hx
    · obtain ⟨i, _, rfl⟩ := List.mem_map.1 hx; exact Nat.le_refl _
  | drawn l g k =>
    simp only [brs] at hx
    split at hx
    · cases hx
    · obtain ⟨i, _, rfl⟩ := List.mem_map.1 hx; exact Nat.le_refl _
  | cut k =>
    simp only [brs] at hx
    split at hx
    · cases hx
    · obtain ⟨i, _, rfl⟩ := List.mem_map.1 hx; exact Nat.le_refl _
theorem mem_pick : ∀ (L : List (Nat × St)) (x : Nat × St), x ∈ L → 1 ≤ x.1 → ∃ c, pick L c = some x.2
  | [], x, h, _ => by cases h
  | y :: L, x, h, h1 => by
    rcases List.mem_cons.1 h with rfl | h
    · exact ⟨0, by unfold pick; rw [if_pos (by omega)]⟩
    · obtain ⟨c, hc⟩ := mem_pick L x h h1
      refine ⟨y.1 + c, ?_⟩
      unfold pick
      rw [if_neg (by omega), Nat.add_sub_cancel_left]
      exact hc
/-- What is reached is reached by a course. -/
theorem reach_run (H : HV) (hw : Wide H) (s0 : St) : ∀ k t, Reach H s0 k t ↔ ∃ A : List Nat, A.length = k ∧ runN H s0 A = some t
  | 0, t => by
    constructor
    · intro h
      have e : t = s0 := h
      exact ⟨[], rfl, by rw [e]; rfl⟩
    · rintro ⟨A, hA, h⟩
      have : A = [] := List.length_eq_zero_iff.1 hA
      subst this
      simp only [runN, Option.some.injEq] at h
      exact h.symm
  | k + 1, t => by
    constructor
    · rintro ⟨s, hs, w, hm⟩
      obtain ⟨A, hA, h⟩ := (reach_run H hw s0 k s).1 hs
      obtain ⟨c, hc⟩ := mem_pick _ _ hm (wide_brs hw s _ hm)
      refine ⟨A ++ [c], by simp [hA], ?_⟩
      rw [run_append H A [c] s0 s h]
      simp only [runN, hc]
    · rintro ⟨A, hA, h⟩
      obtain ⟨B, c, rfl⟩ : ∃ B c, A = B ++ [c] := by
        rcases List.eq_nil_or_concat A with rfl | ⟨B, c, rfl⟩
        · simp at hA
        · exact ⟨B, c, by simp⟩
      have hB : B.length = k := by simpa using hA
      cases hr : runN H s0 B with
      | none => 
        exfalso
        have key : ∀ (B M : List Nat) (s : St), runN H s B = none → runN H s (B ++ M) = none := by
          intro B
          induction B with
          | nil => intro M s h; cases h
          | cons b B ih =>
            intro M s h
            simp only [runN, List.cons_append] at h ⊢
            cases hp : pick (brs H s) b with
            | none => rfl
            | some u => rw [hp] at h; exact ih M u h
        rw [key B [c] s0 hr] at h
        cases h
      | some s =>
        rw [run_append H B [c] s0 s hr] at h
        simp only [runN] at h
        cases hp : pick (brs H s) c with
        | none => rw [hp] at h; cases h
        | some u =>
          rw [hp] at h
          injection h with h
          subst h
          obtain ⟨w, hm⟩ := pick_mem _ _ _ hp
          exact ⟨s, (reach_run H hw s0 k s).2 ⟨B, hB, hr⟩, w, hm⟩
end Go.Proofs.Ytmjnelkeiogdcaa
