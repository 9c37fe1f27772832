/- The plain law of hands: courses that are followed; all courses made longer step by step. -/
import Derived.Test.YtmjnelkeiogdcaaP3
namespace Go.Proofs.Ytmjnelkeiogdcaa
open Go
set_option maxRecDepth 100000

theorem run_append (H : HV) : ∀ (L M : List Nat) (s t : St), runN H s L = some t → runN H s (L ++ M) = runN H t M
  | [], M, s, t, h => by
    simp only [runN, Option.some.injEq] at h
    subst h
    rfl
  | c :: L, M, s, t, h => by
    simp only [runN, List.cons_append] at h ⊢
    cases hp : pick (brs H s) c with
    | none => rw [hp] at h; cases h
    | some u => rw [hp] at h; exact run_append H L M u t h
theorem run_fit (H : HV) : ∀ (L : List Nat) (s t : St), Fit H s → runN H s L = some t → Fit H t ∧ dep t + L.length = dep s
  | [], s, t, hF, h => by
    simp only [runN, Option.some.injEq] at h
    subst h
    exact ⟨hF, rfl⟩
  | c :: L, s, t, hF, h => by
    simp only [runN] at h
    cases hp : pick (brs H s) c with
    | none => rw [hp] at h; cases h
    | some u =>
      rw [hp] at h
      obtain ⟨w, hw⟩ := pick_mem _ _ _ hp
      obtain ⟨h1, h2⟩ := step_fit H s hF _ hw
      obtain ⟨h3, h4⟩ := run_fit H L u t h1 h
      exact ⟨h3, by simp only [List.length_cons]; simp only at h2; omega⟩
theorem Last.run {H : HV} : ∀ (L : List Nat) {s t : St}, Last H s → runN H s L = some t → Last H t
  | [], s, t, hl, h => by
    simp only [runN, Option.some.injEq] at h
    subst h
    exact hl
  | c :: L, s, t, hl, h => by
    simp only [runN] at h
    cases hp : pick (brs H s) c with
    | none => rw [hp] at h; cases h
    | some u =>
      rw [hp] at h
      obtain ⟨w, hw⟩ := pick_mem _ _ _ hp
      exact Last.run L (hl.step hw) h
/-- In such a hand a state is complete just if no step is left. -/
theorem Last.zero {H : HV} {s : St} (h : Last H s) (hF : Fit H s) : chN H s = 0 ↔ dep s = 0 :=
  ⟨fun h0 => Classical.byContradiction fun hd => by have := h.self hd; omega, fun hd => by rw [chN_sum, dep_zero hF hd]; rfl⟩
/-- What becomes of a course: its last state; or where it is refused, and the error. -/
inductive FR where
  | ok (s : St)
  | bad (i e : Nat)
/-- A course of any numbers is followed. -/
def folN (H : HV) : St → List Int → Nat → FR
  | s, [], _ => .ok s
  | s, c :: L, i => if chN H s = 0 then .bad i 5 else if c < 0 then .bad i 20 else match pick (brs H s) c.toNat with | none => .bad i 20 | some t => folN H t L (i + 1)
/-- .. and must be complete. -/
def fulN (H : HV) (s : St) (L : List Int) : FR := match folN H s L 0 with
  | .ok t => if chN H t = 0 then .ok t else .bad L.length 7
  | .bad i e => .bad i e
theorem fol_run (H : HV) : ∀ (L : List Nat) (s : St) (i : Nat) (t : St), folN H s (L.map fun c => ((c : Nat) : Int)) i = .ok t ↔ runN H s L = some t
  | [], s, i, t => by simp [folN, runN]
  | c :: L, s, i, t => by
    simp only [List.map_cons, folN, runN]
    by_cases h0 : chN H s = 0
    · rw [if_pos h0, pick_none (brs H s) c (by rw [← chN_sum]; omega)]
      simp
    · rw [if_neg h0, if_neg (by omega), Int.toNat_natCast]
      cases hp : pick (brs H s) c with
      | none => simp
      | some u => exact fol_run H L u (i + 1) t
/-- A course that is followed to its end has numbers that are not negative. -/
theorem fol_nat (H : HV) : ∀ (L : List Int) (s : St) (i : Nat) (t : St), folN H s L i = .ok t → ∃ M : List Nat, L = M.map fun c => ((c : Nat) : Int)
  | [], s, i, t, _ => ⟨[], rfl⟩
  | c :: L, s, i, t, h => by
    unfold folN at h
    split at h
    · cases h
    · split at h
      · cases h
      · cases hp : pick (brs H s) c.toNat with
        | none => rw [hp] at h; cases h
        | some u =>
          rw [hp] at h
          obtain ⟨M, hM⟩ := fol_nat H L u (i + 1) t h
          exact ⟨c.toNat :: M, by rw [hM, List.map_cons]; congr 1; omega⟩
theorem runsF_congr' {β : Type} (g g' : Nat → St → List β) : ∀ (L : List (Nat × St)) (o : Nat), (∀ c t, o ≤ c → pick L (c - o) = some t → g c t = g' c t) → runsF g o L = runsF g' o L
  | [], _, _ => rfl
  | x :: L, o, h => by
    unfold runsF
    rw [runsF_congr' g g' L (o + x.1) fun c t hc hp => h c t (by omega) (by
      unfold pick
      rw [if_neg (by omega), show c - o - x.1 = c - (o + x.1) by omega]
      exact hp)]
    congr 1
    refine flat_congr _ _ _ fun i hi => ?_
    have hi' := List.mem_range.1 hi
    refine h (o + i) x.2 (by omega) ?_
    unfold pick
    rw [if_pos (by omega)]
where
  flat_congr {α β : Type} (f f' : α → List β) : ∀ (L : List α), (∀ x ∈ L, f x = f' x) → L.flatMap f = L.flatMap f'
    | [], _ => rfl
    | x :: L, h => by rw [List.flatMap_cons, List.flatMap_cons, h x (by simp), flat_congr f f' L fun y hy => h y (by simp [hy])]
theorem flat_flat {α β γ : Type} (f : α → List β) (F : β → List γ) : ∀ (L : List α), (L.flatMap f).flatMap F = L.flatMap fun x => (f x).flatMap F
  | [] => rfl
  | x :: L => by rw [List.flatMap_cons, List.flatMap_append, List.flatMap_cons, flat_flat f F L]
theorem runsF_flat {β γ : Type} (g : Nat → St → List β) (F : β → List γ) : ∀ (L : List (Nat × St)) (o : Nat), (runsF g o L).flatMap F = runsF (fun c t => (g c t).flatMap F) o L
  | [], _ => rfl
  | x :: L, o => by
    unfold runsF
    rw [List.flatMap_append, runsF_flat g F L, flat_flat]
theorem filter_flat {α β : Type} (p : β → Bool) (f : α → List β) : ∀ (L : List α), (L.flatMap f).filter p = L.flatMap fun x => (f x).filter p
  | [] => rfl
  | x :: L => by rw [List.flatMap_cons, List.filter_append, List.flatMap_cons, filter_flat p f L]
theorem runsF_filter {β : Type} (g : Nat → St → List β) (p : β → Bool) : ∀ (L : List (Nat × St)) (o : Nat), (runsF g o L).filter p = runsF (fun c t => (g c t).filter p) o L
  | [], _ => rfl
  | x :: L, o => by
    unfold runsF
    rw [List.filter_append, runsF_filter g p L, filter_flat]
theorem runsF_const {β : Type} (g : Nat → List β) : ∀ (L : List (Nat × St)) (o : Nat), runsF (fun c _ => g c) o L = (List.range (sumW L)).flatMap fun i => g (o + i)
  | [], _ => by simp [runsF, sumW]
  | x :: L, o => by
    unfold runsF
    rw [runsF_const g L, sumW_cons, List.range_add, List.flatMap_append, List.flatMap_map]
    congr 2
    funext i
    rw [Nat.add_assoc]
/-- The end of a course has P. -/
def endP (H : HV) (s : St) (P : St → Bool) (L : List Nat) : Bool := match runN H s L with | some t => P t | none => false
def anyS : St → Bool := fun _ => true
theorem crs_filter (H : HV) (P : St → Bool) : ∀ (k : Nat) (s : St), crs H P k s = (crs H anyS k s).filter (endP H s P)
  | 0, s => by
    unfold crs
    cases hP : P s <;> simp [anyS, endP, runN, hP]
  | k + 1, s => by
    unfold crs
    rw [runsF_filter]
    refine runsF_congr' _ _ _ _ fun c t _ hp => ?_
    rw [List.filter_map, crs_filter H P k t]
    congr 2
    funext A
    rw [Nat.sub_zero] at hp
    simp only [Function.comp, endP, runN, hp]
/-- How many choices there are behind a course. -/
def chE (H : HV) (s : St) (L : List Nat) : Nat := match runN H s L with | some t => chN H t | none => 0
/-- All courses, each made longer by one choice. -/
theorem crs_snoc (H : HV) : ∀ (k : Nat) (s : St), crs H anyS (k + 1) s = (crs H anyS k s).flatMap fun p => (List.range (chE H s p)).map fun c => p ++ [c]
  | 0, s => by
    show runsF (fun c t => (crs H anyS 0 t).map (c :: ·)) 0 (brs H s) = (if anyS s then [[]] else []).flatMap _
    have e : (fun (c : Nat) (t : St) => (crs H anyS 0 t).map (c :: ·)) = fun c _ => [[c]] := by
      funext c t
      simp [crs, anyS]
    rw [e, runsF_const (fun c => [[c]])]
    simp only [anyS, if_true, List.flatMap_cons, List.flatMap_nil, List.append_nil, chE, runN, List.nil_append, Nat.zero_add]
    rw [← chN_sum]
    exact List.map_eq_flatMap.symm
  | k + 1, s => by
    rw [crs, show crs H anyS (k + 1) s = runsF (fun c t => (crs H anyS k t).map (c :: ·)) 0 (brs H s) from rfl, runsF_flat]
    refine runsF_congr' _ _ _ _ fun c t _ hp => ?_
    rw [Nat.sub_zero] at hp
    rw [crs_snoc H k t, List.map_flatMap, List.flatMap_map]
    congr 1
    funext p
    simp only [chE, runN, hp, List.map_map]
    rfl
theorem crs_zero (H : HV) (s : St) : crs H anyS 0 s = [[]] := rfl
end Go.Proofs.Ytmjnelkeiogdcaa
