/- The plain law of hands: weights as the document counts them, course by course. -/
import Derived.Test.YtmjnelkeiogdcaaP5
namespace Go.Proofs.Ytmjnelkeiogdcaa
open Go
set_option maxRecDepth 100000

/-- The weight of a course: the denominator, divided by the number of choices of each step. -/
def wR (H : HV) : Nat → St → List Nat → Nat
  | d, _, [] => d
  | d, s, c :: L => match pick (brs H s) c with | some t => wR H (d / chN H s) t L | none => 0
theorem sum_flat {α β : Type} (f : β → Nat) (g : α → List β) (L : List α) : ((L.flatMap g).map f).sum = (L.map fun x => ((g x).map f).sum).sum := flat_sum f g L
theorem runsF_sum {β : Type} (f : β → Nat) (g : Nat → St → List β) (h : St → Nat) : ∀ (L : List (Nat × St)) (o : Nat), (∀ c t, o ≤ c → pick L (c - o) = some t → ((g c t).map f).sum = h t) →
    ((runsF g o L).map f).sum = (L.map fun x => x.1 * h x.2).sum
  | [], _, _ => rfl
  | x :: L, o, hh => by
    unfold runsF
    rw [List.map_append, List.sum_append, runsF_sum f g h L (o + x.1) fun c t hc hp => hh c t (by omega) (by
      unfold pick
      rw [if_neg (by omega), show c - o - x.1 = c - (o + x.1) by omega]
      exact hp), List.map_cons, List.sum_cons]
    congr 1
    rw [sum_flat, sum_map_congr _ (fun _ => h x.2) _ fun i hi => hh (o + i) x.2 (by omega) (by
      have := List.mem_range.1 hi
      unfold pick
      rw [if_pos (by omega)])]
    clear hh
    generalize h x.2 = z
    generalize x.1 = m
    induction m with
    | zero => simp
    | succ m ih => rw [List.range_succ, List.map_append, List.sum_append, ih, Nat.add_mul]; simp
/-- Each choice of a step divides its denominator. -/
def Divs (H : HV) (s0 : St) : Prop := ∀ k s, Reach H s0 k s → dep s ≠ 0 → chN H s ∣ comK H s0 k
theorem divs_all (H : HV) (s0 : St) (hl : Last H s0) : Divs H s0 := fun k s hr hd =>
  lcmL_mem _ _ (List.mem_map.2 ⟨s, (mem_lay H s0 k s).2 hr, rfl⟩) (hl k s hr hd)
theorem crs_weights (H : HV) (s0 : St) (hF : Fit H s0) (hl : Last H s0) (P : St → Bool) : ∀ (m k : Nat) (s : St) (d : Nat), Reach H s0 k s → dep s = m →
    ((crs H P m s).map (wR H (d * prodL (comL H s0 k m)) s)).sum = d * wtU H P (comL H s0 k m) s
  | 0, k, s, d, _, _ => by
    simp only [comL, prodL, Nat.mul_one, crs, wtU]
    split <;> simp [wR]
  | m + 1, k, s, d, hr, hd => by
    have hdv := divs_all H s0 hl k s hr (by omega)
    have hpos := hl k s hr (by omega)
    have hfs := (reach_fit H s0 hF k s hr).1
    rw [crs]
    simp only [comL, prodL, wtU]
    rw [runsF_sum _ _ (fun t => d * (comK H s0 k / chN H s) * wtU H P (comL H s0 (k + 1) m) t) (brs H s) 0 fun c t _ hp => ?_]
    · rw [← sum_map_mul]
      refine sum_map_congr _ _ _ fun x _ => ?_
      rw [← Nat.mul_assoc, ← Nat.mul_assoc, ← Nat.mul_assoc, ← Nat.mul_assoc, Nat.mul_comm x.1 d, Nat.mul_assoc d x.1, Nat.mul_comm x.1, ← Nat.mul_assoc]
    · rw [Nat.sub_zero] at hp
      obtain ⟨w, hw⟩ := pick_mem _ _ _ hp
      have hst := (step_fit H s hfs _ hw).2
      have ih := crs_weights H s0 hF hl P m (k + 1) t (d * (comK H s0 k / chN H s)) ⟨s, hr, w, hw⟩ (by simp only at hst; omega)
      rw [List.map_map, ← ih]
      refine sum_map_congr _ _ _ fun A _ => ?_
      simp only [Function.comp, wR, hp]
      congr 1
      obtain ⟨q, hq⟩ := hdv
      rw [hq, Nat.mul_div_cancel_left q hpos, show d * (chN H s * q * prodL (comL H s0 (k + 1) m)) = chN H s * (d * q * prodL (comL H s0 (k + 1) m)) by
        rw [Nat.mul_assoc (chN H s), Nat.mul_left_comm, Nat.mul_assoc d], Nat.mul_div_cancel_left _ hpos]
/-- Each run of choices is one of at least one choice. -/
def Wide (H : HV) : Prop := ∀ f ∈ H.faces, 1 ≤ f.2
theorem wide_brs {H : HV} (h : Wide H) (s : St) : ∀ x ∈ brs H s, 1 ≤ x.1 := by
  intro x hx
  cases s with
  | thrown l k =>
    simp only [brs] at hx
    split at hx
    · cases hx
    · obtain ⟨f, hf, rfl⟩ := List.mem_map.1 hx
      exact h f hf
  | marked m =>
    simp only [brs] at hx
    split at hx
    · obtain ⟨i, _, rfl⟩ := List.mem_map.1 hx; exact Nat.le_refl _
    · cases hx
  | divided l n =>
    simp only [brs] at hx
    split at hx
    · cases hx
    · obtain ⟨i, _, rfl⟩ := List.mem_map.1 hx; exact Nat.le_refl _
  | drawn l g k =>
    simp only [brs] at hx
    split at hx
    · cases hx
    · obtain ⟨i, _, rfl⟩ := List.mem_map.1 hx; exact Nat.le_refl _
  | cut k =>
    simp only [brs] at hx
    split at hx
    · cases hx
    · obtain ⟨i, _, rfl⟩ := List.mem_map.1 hx; exact Nat.le_refl _
theorem mem_pick : ∀ (L : List (Nat × St)) (x : Nat × St), x ∈ L → 1 ≤ x.1 → ∃ c, pick L c = some x.2
  | [], x, h, _ => by cases h
  | y :: L, x, h, h1 => by
    rcases List.mem_cons.1 h with rfl | h
    · exact ⟨0, by unfold pick; rw [if_pos (by omega)]⟩
    · obtain ⟨c, hc⟩ := mem_pick L x h h1
      refine ⟨y.1 + c, ?_⟩
      unfold pick
      rw [if_neg (by omega), Nat.add_sub_cancel_left]
      exact hc
/-- What is reached is reached by a course. -/
theorem reach_run (H : HV) (hw : Wide H) (s0 : St) : ∀ k t, Reach H s0 k t ↔ ∃ A : List Nat, A.length = k ∧ runN H s0 A = some t
  | 0, t => by
    constructor
    · intro h
      have e : t = s0 := h
      exact ⟨[], rfl, by rw [e]; rfl⟩
    · rintro ⟨A, hA, h⟩
      have : A = [] := List.length_eq_zero_iff.1 hA
      subst this
      simp only [runN, Option.some.injEq] at h
      exact h.symm
  | k + 1, t => by
    constructor
    · rintro ⟨s, hs, w, hm⟩
      obtain ⟨A, hA, h⟩ := (reach_run H hw s0 k s).1 hs
      obtain ⟨c, hc⟩ := mem_pick _ _ hm (wide_brs hw s _ hm)
      refine ⟨A ++ [c], by simp [hA], ?_⟩
      rw [run_append H A [c] s0 s h]
      simp only [runN, hc]
    · rintro ⟨A, hA, h⟩
      obtain ⟨B, c, rfl⟩ : ∃ B c, A = B ++ [c] := by
        rcases List.eq_nil_or_concat A with rfl | ⟨B, c, rfl⟩
        · simp at hA
        · exact ⟨B, c, by simp⟩
      have hB : B.length = k := by simpa using hA
      cases hr : runN H s0 B with
      | none => 
        exfalso
        have key : ∀ (B M : List Nat) (s : St), runN H s B = none → runN H s (B ++ M) = none := by
          intro B
          induction B with
          | nil => intro M s h; cases h
          | cons b B ih =>
            intro M s h
            simp only [runN, List.cons_append] at h ⊢
            cases hp : pick (brs H s) b with
            | none => rfl
            | some u => rw [hp] at h; exact ih M u h
        rw [key B [c] s0 hr] at h
        cases h
      | some s =>
        rw [run_append H B [c] s0 s hr] at h
        simp only [runN] at h
        cases hp : pick (brs H s) c with
        | none => rw [hp] at h; cases h
        | some u =>
          rw [hp] at h
          injection h with h
          subst h
          obtain ⟨w, hm⟩ := pick_mem _ _ _ hp
          exact ⟨s, (reach_run H hw s0 k s).2 ⟨B, hB, hr⟩, w, hm⟩
end Go.Proofs.Ytmjnelkeiogdcaa
