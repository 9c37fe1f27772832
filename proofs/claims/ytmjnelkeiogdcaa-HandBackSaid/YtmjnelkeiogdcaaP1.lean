/- The plain law of hands: courses in their order, how many there are, the number of a course. -/
import Derived.Test.YtmjnelkeiogdcaaHK
import Derived.Test.YtmjnelkeiogdcaaHN
namespace Go.Proofs.Ytmjnelkeiogdcaa
open Go
set_option maxRecDepth 100000

theorem sumW_cons (x : Nat × St) (L : List (Nat × St)) : sumW (x :: L) = x.1 + sumW L := by simp [sumW]
theorem pick_some : ∀ (L : List (Nat × St)) (c : Nat), c < sumW L → ∃ t, pick L c = some t
  | [], c, h => by simp [sumW] at h
  | x :: L, c, h => by
    rw [sumW_cons] at h
    unfold pick
    by_cases hc : c < x.1
    · rw [if_pos hc]; exact ⟨_, rfl⟩
    · rw [if_neg hc]; exact pick_some L _ (by omega)
theorem pick_none : ∀ (L : List (Nat × St)) (c : Nat), sumW L ≤ c → pick L c = none
  | [], c, _ => rfl
  | x :: L, c, h => by
    rw [sumW_cons] at h
    unfold pick
    rw [if_neg (by omega)]
    exact pick_none L _ (by omega)
theorem pick_lt (L : List (Nat × St)) (c : Nat) (t : St) (h : pick L c = some t) : c < sumW L := by
  apply Classical.byContradiction
  intro hn
  rw [pick_none L c (by omega)] at h
  cases h
theorem pick_mem : ∀ (L : List (Nat × St)) (c : Nat) (t : St), pick L c = some t → ∃ w, (w, t) ∈ L
  | [], c, t, h => by cases h
  | x :: L, c, t, h => by
    unfold pick at h
    by_cases hc : c < x.1
    · rw [if_pos hc] at h
      injection h with h
      subst h
      exact ⟨x.1, by simp⟩
    · rw [if_neg hc] at h
      obtain ⟨w, hw⟩ := pick_mem L _ t h
      exact ⟨w, by simp [hw]⟩
/-- All runs of choices, with the number of the first one of each. -/
def runsF {β : Type} (g : Nat → St → List β) : Nat → List (Nat × St) → List β
  | _, [] => []
  | o, x :: L => (List.range x.1).flatMap (fun i => g (o + i) x.2) ++ runsF g (o + x.1) L
theorem runsF_congr {β : Type} {g g' : Nat → St → List β} : ∀ (L : List (Nat × St)) (o : Nat), (∀ c, ∀ x ∈ L, g c x.2 = g' c x.2) → runsF g o L = runsF g' o L
  | [], _, _ => rfl
  | x :: L, o, h => by
    unfold runsF
    rw [runsF_congr L (o + x.1) fun c y hy => h c y (by simp [hy])]
    congr 2
    funext i
    exact h _ x (by simp)
theorem flat_len {α β : Type} (g : α → List β) (n : Nat) : ∀ (L : List α), (∀ x ∈ L, (g x).length = n) → (L.flatMap g).length = L.length * n
  | [], _ => by simp
  | x :: L, h => by
    rw [List.flatMap_cons, List.length_append, h x (by simp), flat_len g n L fun y hy => h y (by simp [hy]), List.length_cons, Nat.add_mul, Nat.one_mul, Nat.add_comm]
theorem flat_get {β : Type} (g : Nat → List β) (n : Nat) (hg : ∀ c, (g c).length = n) : ∀ (m i : Nat), i < m * n → ((List.range m).flatMap g)[i]? = (g (i / n))[i % n]?
  | 0, i, h => by omega
  | m + 1, i, h => by
    rw [List.range_succ, List.flatMap_append, List.flatMap_cons, List.flatMap_nil, List.append_nil]
    have hl : ((List.range m).flatMap g).length = m * n := by rw [flat_len g n _ fun x _ => hg x, List.length_range]
    by_cases hi : i < m * n
    · rw [List.getElem?_append_left (by omega)]
      exact flat_get g n hg m i hi
    · rw [List.getElem?_append_right (by omega), hl]
      have h1 : i - m * n < n := by rw [Nat.add_mul, Nat.one_mul] at h; omega
      obtain ⟨r, hr⟩ : ∃ r, i - m * n = r := ⟨_, rfl⟩
      rw [hr] at h1
      have e : i = n * m + r := by rw [Nat.mul_comm]; omega
      have hd : i / n = m := by rw [e, Nat.mul_add_div (by omega), Nat.div_eq_of_lt h1]; omega
      have hm : i % n = i - m * n := by rw [hr, e, Nat.mul_add_mod, Nat.mod_eq_of_lt h1]
      rw [hd, hm]
/-- All courses of k steps from a state on at whose end P holds, in their order. -/
def crs (H : HV) (P : St → Bool) : Nat → St → List (List Nat)
  | 0, s => if P s then [[]] else []
  | k + 1, s => runsF (fun c t => (crs H P k t).map (c :: ·)) 0 (brs H s)
def cnt (H : HV) (P : St → Bool) (k : Nat) (s : St) : Nat := (crs H P k s).length
theorem runsF_len {β : Type} (g : Nat → St → List β) (f : St → Nat) (hg : ∀ c t, (g c t).length = f t) : ∀ (L : List (Nat × St)) (o : Nat), (runsF g o L).length = (L.map fun x => x.1 * f x.2).sum
  | [], _ => rfl
  | x :: L, o => by
    unfold runsF
    rw [List.length_append, runsF_len g f hg L, flat_len _ (f x.2) _ fun i _ => hg _ _, List.length_range]
    simp
theorem cnt_zero (H : HV) (P : St → Bool) (s : St) : cnt H P 0 s = if P s then 1 else 0 := by
  unfold cnt crs
  split <;> rfl
theorem cnt_succ (H : HV) (P : St → Bool) (k : Nat) (s : St) : cnt H P (k + 1) s = ((brs H s).map fun x => x.1 * cnt H P k x.2).sum := by
  unfold cnt
  rw [crs]
  exact runsF_len (fun c t => (crs H P k t).map (c :: ·)) (fun t => (crs H P k t).length) (fun c t => List.length_map _) _ _
/-- The course with a number: the choice, what is left of the number, and the next state. -/
def nthS (f : St → Nat) : Nat → Nat → List (Nat × St) → Option (Nat × Nat × St)
  | _, _, [] => none
  | o, i, x :: L => if i < f x.2 * x.1 then some (o + i / f x.2, i % f x.2, x.2) else nthS f (o + x.1) (i - f x.2 * x.1) L
theorem nthS_spec {β : Type} (g : Nat → St → List β) (f : St → Nat) (hg : ∀ c t, (g c t).length = f t) : ∀ (L : List (Nat × St)) (o i : Nat), i < (runsF g o L).length →
    ∃ c j t, nthS f o i L = some (c, j, t) ∧ j < f t ∧ (∃ w, (w, t) ∈ L) ∧ o ≤ c ∧ pick L (c - o) = some t ∧ (runsF g o L)[i]? = (g c t)[j]?
  | [], o, i, h => by simp [runsF] at h
  | x :: L, o, i, h => by
    have hl : ((List.range x.1).flatMap fun i => g (o + i) x.2).length = x.1 * f x.2 := by rw [flat_len _ (f x.2) _ fun i _ => hg _ _, List.length_range]
    unfold runsF at h ⊢
    rw [List.length_append, hl] at h
    unfold nthS
    by_cases hi : i < f x.2 * x.1
    · rw [if_pos hi]
      have hf : 0 < f x.2 := by
        apply Nat.pos_of_ne_zero
        intro h0
        rw [h0] at hi
        omega
      have hd : i / f x.2 < x.1 := (Nat.div_lt_iff_lt_mul hf).2 (by rw [Nat.mul_comm]; exact hi)
      have hge : o ≤ o + i / f x.2 := Nat.le_add_right _ _
      have hsb : o + i / f x.2 - o = i / f x.2 := Nat.add_sub_cancel_left _ _
      refine ⟨_, _, _, rfl, Nat.mod_lt _ hf, ⟨x.1, by simp⟩, hge, ?_, ?_⟩
      · unfold pick
        rw [hsb, if_pos hd]
      · rw [List.getElem?_append_left (by rw [hl, Nat.mul_comm]; exact hi)]
        exact flat_get (fun i => g (o + i) x.2) (f x.2) (fun c => hg _ _) x.1 i (by rw [Nat.mul_comm]; exact hi)
    · rw [if_neg hi]
      have hi' : ¬ i < x.1 * f x.2 := by rw [Nat.mul_comm]; exact hi
      obtain ⟨c, j, t, h1, h2, ⟨w, hw⟩, h3, h4, h5⟩ := nthS_spec g f hg L (o + x.1) (i - f x.2 * x.1) (by rw [Nat.mul_comm (f x.2)]; omega)
      refine ⟨c, j, t, h1, h2, ⟨w, by simp [hw]⟩, by omega, ?_, ?_⟩
      · unfold pick
        rw [if_neg (by omega)]
        rw [show c - o - x.1 = c - (o + x.1) by omega]
        exact h4
      · rw [List.getElem?_append_right (by rw [hl]; omega), hl, Nat.mul_comm x.1]
        exact h5
/-- How many courses come ahead of a choice. -/
def rankS (f : St → Nat) : Nat → List (Nat × St) → Nat
  | _, [] => 0
  | c, x :: L => if c < x.1 then c * f x.2 else x.1 * f x.2 + rankS f (c - x.1) L
theorem rankS_spec {β : Type} (g : Nat → St → List β) (f : St → Nat) (hg : ∀ c t, (g c t).length = f t) : ∀ (L : List (Nat × St)) (o c : Nat) (t : St), pick L c = some t → ∀ j, j < f t →
    rankS f c L + j < (runsF g o L).length ∧ (runsF g o L)[rankS f c L + j]? = (g (o + c) t)[j]?
  | [], o, c, t, h => by cases h
  | x :: L, o, c, t, h => by
    intro j hj
    have hl : ((List.range x.1).flatMap fun i => g (o + i) x.2).length = x.1 * f x.2 := by rw [flat_len _ (f x.2) _ fun i _ => hg _ _, List.length_range]
    unfold pick at h
    unfold rankS runsF
    rw [List.length_append, hl]
    by_cases hc : c < x.1
    · rw [if_pos hc] at h ⊢
      injection h with h
      subst h
      have h1 : c * f x.2 + j < x.1 * f x.2 := by
        have : (c + 1) * f x.2 ≤ x.1 * f x.2 := Nat.mul_le_mul_right _ hc
        rw [Nat.add_mul, Nat.one_mul] at this
        omega
      refine ⟨by omega, ?_⟩
      rw [List.getElem?_append_left (by omega), flat_get (fun i => g (o + i) x.2) (f x.2) (fun c => hg _ _) x.1 _ h1]
      have hd : (c * f x.2 + j) / f x.2 = c := by rw [Nat.mul_comm, Nat.mul_add_div (by omega), Nat.div_eq_of_lt hj]; omega
      have hm : (c * f x.2 + j) % f x.2 = j := by rw [Nat.mul_comm, Nat.mul_add_mod, Nat.mod_eq_of_lt hj]
      simp only [hd, hm]
    · rw [if_neg hc] at h ⊢
      obtain ⟨h1, h2⟩ := rankS_spec g f hg L (o + x.1) (c - x.1) t h j hj
      refine ⟨by omega, ?_⟩
      rw [List.getElem?_append_right (by omega), hl, show x.1 * f x.2 + rankS f (c - x.1) L + j - x.1 * f x.2 = rankS f (c - x.1) L + j by omega, h2, show o + x.1 + (c - x.1) = o + c by omega]
/-- The state to which a course leads. -/
def runN (H : HV) : St → List Nat → Option St
  | s, [] => some s
  | s, c :: L => match pick (brs H s) c with | some t => runN H t L | none => none
/-- The number of a course. -/
def rankN (H : HV) (P : St → Bool) : Nat → St → List Nat → Nat
  | k + 1, s, c :: L => match pick (brs H s) c with | some t => rankS (cnt H P k) c (brs H s) + rankN H P k t L | none => 0
  | _, _, _ => 0
theorem rank_spec (H : HV) (P : St → Bool) : ∀ (k : Nat) (s : St) (L : List Nat) (t : St), L.length = k → runN H s L = some t → P t = true → rankN H P k s L < cnt H P k s ∧ (crs H P k s)[rankN H P k s L]? = some L
  | 0, s, [], t, _, h, hP => by
    simp only [runN, Option.some.injEq] at h
    subst h
    simp [rankN, cnt, crs, hP]
  | k + 1, s, c :: L, t, hl, h, hP => by
    simp only [runN] at h
    simp only [rankN]
    cases hp : pick (brs H s) c with
    | none => rw [hp] at h; cases h
    | some u =>
      rw [hp] at h
      obtain ⟨h1, h2⟩ := rank_spec H P k u L t (by simpa using hl) h hP
      obtain ⟨h3, h4⟩ := rankS_spec (fun c t => (crs H P k t).map (c :: ·)) (cnt H P k) (fun c t => by simp [cnt]) (brs H s) 0 c u hp _ h1
      refine ⟨h3, ?_⟩
      show (runsF _ _ _)[_]? = _
      simp only []
      rw [h4, List.getElem?_map, h2]
      simp
  | 0, s, c :: L, t, hl, _, _ => by simp at hl
  | k + 1, s, [], t, hl, _, _ => by simp at hl
/-- Each of the courses leads to a state with P. -/
theorem crs_run (H : HV) (P : St → Bool) : ∀ (k : Nat) (s : St) (L : List Nat), L ∈ crs H P k s → L.length = k ∧ ∃ t, runN H s L = some t ∧ P t = true
  | 0, s, L, h => by
    unfold crs at h
    split at h
    · rename_i hP
      have : L = [] := by simpa using h
      subst this
      exact ⟨rfl, s, rfl, hP⟩
    · cases h
  | k + 1, s, L, h => by
    obtain ⟨i, hi, hL⟩ := List.mem_iff_getElem.1 h
    have hlt : i < (runsF (fun c t => (crs H P k t).map (c :: ·)) 0 (brs H s)).length := hi
    obtain ⟨c, j, t, _, hj, _, _, hp, hg⟩ := nthS_spec (fun c t => (crs H P k t).map (c :: ·)) (cnt H P k) (fun c t => by simp [cnt]) (brs H s) 0 i hlt
    have hL' : (runsF (fun c t => (crs H P k t).map (c :: ·)) 0 (brs H s))[i]? = some L := List.getElem?_eq_some_iff.2 ⟨hi, hL⟩
    rw [hg, List.getElem?_map, List.getElem?_eq_getElem (show j < (crs H P k t).length from hj)] at hL'
    simp only [Option.map_some, Option.some.injEq] at hL'
    obtain ⟨h1, u, h2, h3⟩ := crs_run H P k t _ (List.getElem_mem (show j < (crs H P k t).length from hj))
    rw [← hL']
    refine ⟨by simp [h1], u, ?_, h3⟩
    simp only [runN]
    rw [Nat.sub_zero] at hp
    rw [hp]
    exact h2
end Go.Proofs.Ytmjnelkeiogdcaa
