/- The plain law of hands: weights layer by layer. -/
import Derived.Test.YtmjnelkeiogdcaaP7
namespace Go.Proofs.Ytmjnelkeiogdcaa
open Go
set_option maxRecDepth 100000

theorem findS_put_same (s : St) (v : Int) : ∀ (L : SL) (i : Nat), ∃ j, findS s (match findS s L i with | some z => L.set (z.1 - i) (s, v) | none => L ++ [(s, v)]) i = some (j, v)
  | [], i => ⟨i, by simp [findS]⟩
  | p :: L, i => by
    by_cases h : s = p.1
    · refine ⟨i, ?_⟩
      rw [show findS s (p :: L) i = some (i, p.2) by rw [findS, if_pos h]]
      simp [findS]
    · have ih := findS_put_same s v L (i + 1)
      obtain ⟨j, hj⟩ := ih
      refine ⟨j, ?_⟩
      rw [show findS s (p :: L) i = findS s L (i + 1) by rw [findS, if_neg h]]
      cases hf : findS s L (i + 1) with
      | none =>
        rw [hf] at hj
        simp only [List.cons_append]
        rw [findS, if_neg h]
        exact hj
      | some z =>
        rw [hf] at hj
        have hz := (findS_some s L (i + 1) z.1 z.2 hf).1
        simp only
        rw [show z.1 - i = (z.1 - (i + 1)) + 1 by omega, List.set_cons_succ, findS, if_neg h]
        exact hj
theorem getS_same (L : SL) (s : St) (v : Int) : getS (putS L s v) s = v := by
  obtain ⟨j, hj⟩ := findS_put_same s v L 0
  unfold getS putS
  cases hf : findS s L 0 with
  | none =>
    rw [hf] at hj
    simp only at hj ⊢
    rw [hj]
  | some z =>
    rw [hf] at hj
    simp only [Nat.sub_zero] at hj ⊢
    rw [hj]
theorem findS_append_ne (s t : St) (h : t ≠ s) (v : Int) : ∀ (L : SL) (i : Nat), findS t (L ++ [(s, v)]) i = findS t L i
  | [], i => by simp [findS, h]
  | p :: L, i => by
    rw [List.cons_append, findS, findS]
    split
    · rfl
    · exact findS_append_ne s t h v L (i + 1)
theorem findS_set_ne (s t : St) (h : t ≠ s) (v : Int) : ∀ (L : SL) (i j : Nat) (hj : j < L.length), L[j].1 = s → findS t (L.set j (s, v)) i = findS t L i
  | p :: L, i, 0, _, hp => by
    simp only [List.getElem_cons_zero] at hp
    rw [List.set_cons_zero, findS, findS, if_neg h, if_neg (by rw [hp]; exact h)]
  | p :: L, i, j + 1, hj, hp => by
    rw [List.set_cons_succ, findS, findS]
    split
    · rfl
    · exact findS_set_ne s t h v L (i + 1) j (by simpa using hj) (by simpa using hp)
theorem getS_ne (L : SL) (s t : St) (v : Int) (h : t ≠ s) : getS (putS L s v) t = getS L t := by
  unfold getS putS
  cases hf : findS s L 0 with
  | none =>
    simp only
    rw [findS_append_ne s t h v L 0]
  | some z =>
    obtain ⟨h1, h2, h3⟩ := findS_some s L 0 z.1 z.2 hf
    simp only [Nat.sub_zero] at h2 h3
    simp only
    rw [findS_set_ne s t h v L 0 z.1 h2 (by rw [h3])]
theorem getS_put (L : SL) (s t : St) (v : Int) : getS (putS L s v) t = if t = s then v else getS L t := by
  by_cases h : t = s
  · subst h; rw [if_pos rfl, getS_same]
  · rw [if_neg h, getS_ne L s t v h]
theorem getS_touch (L : SL) (s t : St) : getS (touchS L s) t = getS L t := by
  unfold touchS
  cases hf : findS s L 0 with
  | some z => rfl
  | none =>
    unfold getS
    by_cases h : t = s
    · subst h
      have : ∃ j, findS t (L ++ [(t, 0)]) 0 = some (j, 0) := by
        have := findS_put_same t 0 L 0
        rw [hf] at this
        exact this
      obtain ⟨j, hj⟩ := this
      simp only [hj, hf]
    · simp only
      rw [findS_append_ne s t h 0 L 0]
/-- The weights of all runs of k steps. -/
def fwd (H : HV) (s0 : St) : Nat → List (St × Nat)
  | 0 => [(s0, 1)]
  | k + 1 => (fwd H s0 k).flatMap fun p => (brs H p.1).map fun x => (x.2, p.2 * (comK H s0 k / chN H p.1) * x.1)
theorem fwd_reach (H : HV) (s0 : St) : ∀ k p, p ∈ fwd H s0 k → Reach H s0 k p.1
  | 0, p, h => by simp [fwd] at h; subst h; rfl
  | k + 1, p, h => by
    unfold fwd at h
    obtain ⟨q, hq, h⟩ := List.mem_flatMap.1 h
    obtain ⟨x, hx, rfl⟩ := List.mem_map.1 h
    exact ⟨q.1, fwd_reach H s0 k q hq, x.1, hx⟩
/-- The weight of a state behind k steps. -/
def fw (H : HV) (s0 : St) (k : Nat) (t : St) : Nat := sumAt (fwd H s0 k) t
theorem sumAt_flat {α : Type} (g : α → List (St × Nat)) (t : St) : ∀ (L : List α), sumAt (L.flatMap g) t = (L.map fun x => sumAt (g x) t).sum
  | [] => rfl
  | x :: L => by rw [List.flatMap_cons, sumAt_append, sumAt_flat g t L, List.map_cons, List.sum_cons]
theorem sumAt_scale (L : List (Nat × St)) (t : St) (a : Nat) : sumAt (L.map fun x => (x.2, a * x.1)) t = a * sumAt (L.map fun x => (x.2, x.1)) t := by
  unfold sumAt
  rw [List.map_map, List.map_map, ← sum_map_mul]
  refine sum_map_congr _ _ _ fun x _ => ?_
  simp only [Function.comp]
  split <;> simp
/-- A step, state by state: each state once, in any order. -/
theorem fw_step (H : HV) (s0 : St) (k : Nat) (Ls : List St) (hn : Ls.Nodup) (hL : ∀ s, Reach H s0 k s → s ∈ Ls) (t : St) : sumAt (partsL H (comK H s0 k) (fw H s0 k) Ls) t = fw H s0 (k + 1) t := by
  have e : ∀ (a c n : Nat) (L : List (Nat × St)), sumAt (L.map fun x => (x.2, a * (c / n) * x.1)) t = a * (c / n * sumAt (L.map fun x => (x.2, x.1)) t) := fun a c n L => by
    rw [sumAt_scale L t (a * (c / n)), Nat.mul_assoc]
  unfold partsL
  rw [sumAt_flat, sum_map_congr _ _ Ls fun s _ => e (fw H s0 k s) (comK H s0 k) (chN H s) (brs H s)]
  unfold fw
  rw [fiber_sum Ls hn (fun s => comK H s0 k / chN H s * sumAt ((brs H s).map fun x => (x.2, x.1)) t) (fwd H s0 k) fun p hp => hL _ (fwd_reach H s0 k p hp)]
  rw [fwd, sumAt_flat]
  refine sum_map_congr _ _ _ fun p _ => ?_
  exact (e p.2 (comK H s0 k) (chN H p.1) (brs H p.1)).symm
/-- All weights together. -/
theorem fwd_sum (H : HV) (s0 : St) (hl : Last H s0) : ∀ k, (∀ i, i < k → ∀ s, Reach H s0 i s → dep s ≠ 0) → ((fwd H s0 k).map Prod.snd).sum = prodL (comL H s0 0 k)
  | 0, _ => rfl
  | k + 1, hd => by
    have hcom : ∀ m j, comL H s0 j (m + 1) = comL H s0 j m ++ [comK H s0 (j + m)] := by
      intro m
      induction m with
      | zero => intro j; simp [comL]
      | succ m ih =>
        intro j
        rw [comL, ih (j + 1), comL]
        simp [Nat.add_assoc, Nat.add_comm 1 m]
    rw [hcom k 0, Nat.zero_add, show prodL (comL H s0 0 k ++ [comK H s0 k]) = prodL (comL H s0 0 k) * comK H s0 k by
      generalize comL H s0 0 k = L
      induction L with
      | nil => simp [prodL]
      | cons y L ih => simp only [List.cons_append, prodL, ih, Nat.mul_assoc]]
    rw [fwd, flat_sum, ← fwd_sum H s0 hl k (fun i hi => hd i (by omega)), ← sum_map_mul']
    refine sum_map_congr _ _ _ fun p hp => ?_
    have hr := fwd_reach H s0 k p hp
    have hdp := hd k (by omega) p.1 hr
    have hdv := divs_all H s0 hl k p.1 hr hdp
    rw [List.map_map]
    have e : ((brs H p.1).map (Prod.snd ∘ fun x => (x.2, p.2 * (comK H s0 k / chN H p.1) * x.1))).sum = p.2 * (comK H s0 k / chN H p.1) * chN H p.1 := by
      unfold chN
      rw [← sum_map_mul]
      rfl
    rw [e, Nat.mul_assoc, Nat.div_mul_cancel hdv]
/-- What comes to the end. -/
theorem fwd_wt (H : HV) (s0 : St) (P : St → Bool) : ∀ k m, ((fwd H s0 k).map fun p => p.2 * wtU H P (comL H s0 k m) p.1).sum = wtU H P (comL H s0 0 (k + m)) s0
  | 0, m => by simp [fwd]
  | k + 1, m => by
    rw [show k + 1 + m = k + (m + 1) by omega, ← fwd_wt H s0 P k (m + 1), fwd, flat_sum]
    refine sum_map_congr _ _ _ fun p _ => ?_
    rw [List.map_map, comL]
    show _ = p.2 * ((brs H p.1).map fun x => comK H s0 k / chN H p.1 * x.1 * wtU H P (comL H s0 (k + 1) m) x.2).sum
    rw [← sum_map_mul]
    refine sum_map_congr _ _ _ fun x _ => ?_
    simp only [Function.comp]
    rw [Nat.mul_assoc p.2, Nat.mul_assoc p.2]
theorem sumAt_le (ps : List (St × Nat)) (t : St) : sumAt ps t ≤ (ps.map Prod.snd).sum := by
  induction ps with
  | nil => simp [sumAt]
  | cons p ps ih =>
    unfold sumAt at *
    rw [List.map_cons, List.sum_cons, List.map_cons, List.sum_cons]
    split <;> omega
theorem sumAt_prefix (ps qs : List (St × Nat)) (t : St) : sumAt ps t ≤ sumAt (ps ++ qs) t := by rw [sumAt_append]; omega
end Go.Proofs.Ytmjnelkeiogdcaa
