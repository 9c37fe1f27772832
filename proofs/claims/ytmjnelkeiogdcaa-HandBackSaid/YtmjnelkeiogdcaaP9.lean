/- The plain law of hands: bounds of the weights; the weights of the outcomes. -/
import Derived.Test.YtmjnelkeiogdcaaP8
namespace Go.Proofs.Ytmjnelkeiogdcaa
open Go
set_option maxRecDepth 100000

theorem sum_nodup_le (ps : List (St × Nat)) : ∀ (Ls : List St), Ls.Nodup → (Ls.map (sumAt ps)).sum ≤ (ps.map Prod.snd).sum := by
  intro Ls hn
  induction ps with
  | nil =>
    rw [sum_map_congr _ (fun _ => 0) Ls fun t _ => by simp [sumAt], sum_map_zero]
    simp
  | cons p ps ih =>
    have e : ∀ t, sumAt (p :: ps) t = (if p.1 = t then p.2 else 0) + sumAt ps t := fun t => by simp [sumAt]
    rw [sum_map_congr _ _ Ls fun t _ => e t, sum_map_add, List.map_cons, List.sum_cons]
    have h1 : (Ls.map fun t => if p.1 = t then p.2 else 0).sum ≤ p.2 := by
      by_cases hm : p.1 ∈ Ls
      · rw [sum_one Ls hn p.1 hm fun _ => p.2]
        exact Nat.le_refl _
      · rw [sum_map_congr _ (fun _ => 0) Ls fun t ht => if_neg fun e => hm (by rw [e]; exact ht), sum_map_zero]
        omega
    omega
theorem sum_mono {α : Type} (f g : α → Nat) (L : List α) (h : ∀ x ∈ L, f x ≤ g x) : (L.map f).sum ≤ (L.map g).sum := by
  induction L with
  | nil => simp
  | cons x L ih =>
    rw [List.map_cons, List.sum_cons, List.map_cons, List.sum_cons]
    have h1 := h x (by simp)
    have h2 := ih fun y hy => h y (by simp [hy])
    omega
theorem parts_all (H : HV) (c : Nat) (W : St → Nat) (Ls : List St) : ((partsL H c W Ls).map Prod.snd).sum ≤ c * (Ls.map W).sum := by
  unfold partsL
  rw [flat_sum, ← sum_map_mul]
  refine sum_mono _ _ _ fun s _ => ?_
  rw [List.map_map]
  have e : ((brs H s).map (Prod.snd ∘ fun x => (x.2, W s * (c / chN H s) * x.1))).sum = W s * (c / chN H s) * chN H s := by
    unfold chN
    rw [← sum_map_mul]
    rfl
  rw [e, Nat.mul_assoc, Nat.mul_comm c]
  exact Nat.mul_le_mul_left _ (Nat.div_mul_le_self _ _)
/-- What has come while a layer is gone through. -/
def partW (H : HV) (c : Nat) (W : St → Nat) (vis : List St) (s : St) (xs : List (Nat × St)) : List (St × Nat) := partsL H c W vis ++ xs.map fun x => (x.2, W s * (c / chN H s) * x.1)
theorem partW_nil (H : HV) (c : Nat) (W : St → Nat) (vis : List St) (s : St) : partW H c W vis s [] = partsL H c W vis := by simp [partW]
theorem partW_snoc (H : HV) (c : Nat) (W : St → Nat) (vis : List St) (s : St) (xs : List (Nat × St)) (x : Nat × St) : partW H c W vis s (xs ++ [x]) = partW H c W vis s xs ++ [(x.2, W s * (c / chN H s) * x.1)] := by simp [partW]
theorem partW_all (H : HV) (c : Nat) (W : St → Nat) (vis : List St) (s : St) : partW H c W vis s (brs H s) = partsL H c W (vis ++ [s]) := by simp [partW, partsL]
theorem partW_le (H : HV) (s0 : St) (k c : Nat) (vis : List St) (s : St) (hn : (vis ++ [s]).Nodup) (xs rest : List (Nat × St)) (hx : brs H s = xs ++ rest) :
    ((partW H c (fw H s0 k) vis s xs).map Prod.snd).sum ≤ c * ((fwd H s0 k).map Prod.snd).sum := by
  have h1 := parts_all H c (fw H s0 k) (vis ++ [s])
  have h2 := sum_nodup_le (fwd H s0 k) (vis ++ [s]) hn
  have h3 : ((partW H c (fw H s0 k) vis s xs).map Prod.snd).sum ≤ ((partsL H c (fw H s0 k) (vis ++ [s])).map Prod.snd).sum := by
    rw [← partW_all, hx]
    unfold partW
    simp only [List.map_append, List.sum_append]
    omega
  have h4 : c * ((vis ++ [s]).map (fw H s0 k)).sum ≤ c * ((fwd H s0 k).map Prod.snd).sum := Nat.mul_le_mul_left _ h2
  omega
theorem com_snoc (H : HV) (s0 : St) : ∀ m j, comL H s0 j (m + 1) = comL H s0 j m ++ [comK H s0 (j + m)]
  | 0, j => by simp [comL]
  | m + 1, j => by
    rw [comL, com_snoc H s0 m (j + 1), comL]
    simp [Nat.add_assoc, Nat.add_comm 1 m]
theorem prod_snoc (L : List Nat) (x : Nat) : prodL (L ++ [x]) = prodL L * x := by
  induction L with
  | nil => simp [prodL]
  | cons y L ih => simp only [List.cons_append, prodL, ih, Nat.mul_assoc]
/-- The denominator of the first k steps. -/
def dnK (H : HV) (s0 : St) (k : Nat) : Nat := prodL (comL H s0 0 k)
theorem dn_succ (H : HV) (s0 : St) (k : Nat) : dnK H s0 (k + 1) = dnK H s0 k * comK H s0 k := by
  unfold dnK
  rw [com_snoc, prod_snoc, Nat.zero_add]
theorem com_pos (H : HV) (s0 : St) (k : Nat) : 0 < comK H s0 k := lcmL_pos _
theorem dn_pos (H : HV) (s0 : St) : ∀ k, 0 < dnK H s0 k
  | 0 => by simp [dnK, comL, prodL]
  | k + 1 => by rw [dn_succ]; exact Nat.mul_pos (dn_pos H s0 k) (com_pos H s0 k)
theorem dn_mono (H : HV) (s0 : St) (k : Nat) : ∀ m, dnK H s0 k ≤ dnK H s0 (k + m)
  | 0 => Nat.le_refl _
  | m + 1 => by
    rw [show k + (m + 1) = (k + m) + 1 by omega, dn_succ]
    have := dn_mono H s0 k m
    have h2 := Nat.mul_le_mul_left (dnK H s0 (k + m)) (com_pos H s0 (k + m))
    omega
/-- Behind the last step nothing is divided any more. -/
theorem com_end (H : HV) (s0 : St) (hF : Fit H s0) (k : Nat) (hk : dep s0 ≤ k) : comK H s0 k = 1 := by
  unfold comK
  have h : lcmL ((lay H s0 k).map (chN H)) ∣ 1 := (lcmL_dvd _ _).2 fun c hc h0 => by
    exfalso
    obtain ⟨s, hs, rfl⟩ := List.mem_map.1 hc
    obtain ⟨h1, h2⟩ := reach_fit H s0 hF k s ((mem_lay H s0 k s).1 hs)
    have hd : dep s = 0 := by omega
    rw [chN_sum, dep_zero h1 hd] at h0
    simp [sumW] at h0
  exact Nat.dvd_one.1 h
theorem dn_end (H : HV) (s0 : St) (hF : Fit H s0) : ∀ m, dnK H s0 (dep s0 + m) = dnK H s0 (dep s0)
  | 0 => rfl
  | m + 1 => by rw [show dep s0 + (m + 1) = (dep s0 + m) + 1 by omega, dn_succ, dn_end H s0 hF m, com_end H s0 hF _ (by omega), Nat.mul_one]
/-- All weights of a layer are at most the denominator. -/
theorem fwd_total (H : HV) (s0 : St) (hF : Fit H s0) (hl : Last H s0) (k : Nat) : ((fwd H s0 k).map Prod.snd).sum ≤ dnK H s0 k := by
  by_cases hk : k ≤ dep s0
  · rw [fwd_sum H s0 hl k fun i hi s hr => by have := (reach_fit H s0 hF i s hr).2; omega]
    exact Nat.le_refl _
  · have : fwd H s0 k = [] := by
      cases hc : fwd H s0 k with
      | nil => rfl
      | cons p L =>
        have := (reach_fit H s0 hF k p.1 (fwd_reach H s0 k p (by rw [hc]; simp))).2
        omega
    rw [this]
    simp
theorem fw_le (H : HV) (s0 : St) (hF : Fit H s0) (hl : Last H s0) (k : Nat) (t : St) : fw H s0 k t ≤ dnK H s0 k := Nat.le_trans (sumAt_le _ _) (fwd_total H s0 hF hl k)
/-- What complete states add to an outcome. -/
def outAdd (H : HV) (W : St → Nat) (vis : List St) (o : Nat) : Nat := (vis.map fun s => if dep s = 0 ∧ outN H s = ((o : Nat) : Int) then W s else 0).sum
/-- The weight of an outcome, before all are divided. -/
def rawW (H : HV) (s0 : St) (o : Nat) : Nat := wtU H (okO H ((o : Nat) : Int)) (comL H s0 0 (dep s0)) s0
theorem out_zero (H : HV) (W : St → Nat) (vis : List St) (o : Nat) (h : ∀ s ∈ vis, dep s ≠ 0) : outAdd H W vis o = 0 := by
  unfold outAdd
  rw [sum_map_congr _ (fun _ => 0) vis fun s hs => if_neg fun e => h s hs e.1, sum_map_zero]
theorem out_snoc (H : HV) (W : St → Nat) (vis : List St) (s : St) (o : Nat) : outAdd H W (vis ++ [s]) o = outAdd H W vis o + if dep s = 0 ∧ outN H s = ((o : Nat) : Int) then W s else 0 := by simp [outAdd]
theorem out_full (H : HV) (s0 : St) (hF : Fit H s0) (Ls : List St) (hn : Ls.Nodup) (hL : ∀ s, Reach H s0 (dep s0) s ↔ s ∈ Ls) (o : Nat) : outAdd H (fw H s0 (dep s0)) Ls o = rawW H s0 o := by
  have hd : ∀ s ∈ Ls, dep s = 0 := fun s hs => by have := (reach_fit H s0 hF _ s ((hL s).2 hs)).2; omega
  have h := fwd_wt H s0 (okO H ((o : Nat) : Int)) (dep s0) 0
  unfold rawW outAdd
  rw [← Nat.add_zero (dep s0), ← h, Nat.add_zero]
  have e : ∀ s ∈ Ls, (if dep s = 0 ∧ outN H s = ((o : Nat) : Int) then fw H s0 (dep s0) s else 0) = sumAt (fwd H s0 (dep s0)) s * (if okO H ((o : Nat) : Int) s then 1 else 0) := fun s hs => by
    unfold fw okO
    have h0 : decide (((o : Nat) : Int) < 0) = false := by simp
    rw [h0, Bool.false_or]
    by_cases hz : outN H s = ((o : Nat) : Int)
    · rw [if_pos ⟨hd s hs, hz⟩, if_pos (by simp [hz]), Nat.mul_one]
    · rw [if_neg fun h => hz h.2, if_neg (by simp; exact fun h => hz h.symm), Nat.mul_zero]
  rw [sum_map_congr _ _ Ls e, fiber_sum Ls hn (fun s => if okO H ((o : Nat) : Int) s then 1 else 0) _ fun p hp => (hL p.1).1 (fwd_reach H s0 _ p hp)]
  refine sum_map_congr _ _ _ fun p _ => ?_
  simp [comL, wtU]
theorem raw_le (H : HV) (s0 : St) (hF : Fit H s0) (hl : Last H s0) (o : Nat) : rawW H s0 o ≤ dnK H s0 (dep s0) := by
  have h := fwd_wt H s0 (okO H ((o : Nat) : Int)) (dep s0) 0
  unfold rawW
  rw [← Nat.add_zero (dep s0), ← h, Nat.add_zero]
  refine Nat.le_trans ?_ (fwd_total H s0 hF hl (dep s0))
  refine sum_mono _ _ _ fun p _ => ?_
  simp only [comL, wtU]
  split <;> simp
/-- The greatest common divisor of all weights. -/
def gcdW (f : Nat → Nat) : Nat → Nat
  | 0 => 0
  | m + 1 => Nat.gcd (f m) (gcdW f m)
theorem gcdW_dvd (f : Nat → Nat) : ∀ m i, i < m → gcdW f m ∣ f i
  | m + 1, i, h => by
    unfold gcdW
    rcases Nat.lt_or_ge i m with h' | h'
    · exact Nat.dvd_trans (Nat.gcd_dvd_right _ _) (gcdW_dvd f m i h')
    · have : i = m := by omega
      subst this
      exact Nat.gcd_dvd_left _ _
theorem gcdW_pos (f : Nat → Nat) : ∀ m i, i < m → 0 < f i → 0 < gcdW f m
  | m + 1, i, h, h0 => by
    unfold gcdW
    rcases Nat.lt_or_ge i m with h' | h'
    · exact Nat.gcd_pos_of_pos_right _ (gcdW_pos f m i h' h0)
    · have : i = m := by omega
      subst this
      exact Nat.gcd_pos_of_pos_left _ h0
end Go.Proofs.Ytmjnelkeiogdcaa
