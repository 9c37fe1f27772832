/- The plain law of hands: common denominators and weights. -/
import Derived.Test.YtmjnelkeiogdcaaP2
namespace Go.Proofs.Ytmjnelkeiogdcaa
open Go
set_option maxRecDepth 100000

theorem times_sat (a b : Nat) : timesN a b = satN (a * b) := by
  unfold timesN satN
  rcases Nat.eq_zero_or_pos b with hb | hb
  · subst hb; simp
  · have h := Nat.div_lt_iff_lt_mul (x := 1000000000000000) (y := a) hb
    by_cases h1 : 1000000000000000 / b < a
    · rw [if_pos ⟨hb, h1⟩, if_neg (by have := h.1 h1; omega)]
    · rw [if_neg (by omega), if_pos (by have := mt h.2 h1; omega)]
theorem sat_mul (a b : Nat) : satN (satN a * b) = satN (a * b) := by rw [← times_sat, sat_times]
theorem sat_mul' (a b : Nat) : satN (a * satN b) = satN (a * b) := by rw [Nat.mul_comm, sat_mul, Nat.mul_comm]
theorem sat_sat (a : Nat) : satN (satN a) = satN a := by unfold satN; split <;> simp
/-- The least common multiple of those that are not 0. -/
def lcmL : List Nat → Nat
  | [] => 1
  | c :: L => if 0 < c then Nat.lcm c (lcmL L) else lcmL L
theorem lcmL_dvd : ∀ (L : List Nat) (m : Nat), lcmL L ∣ m ↔ ∀ c ∈ L, 0 < c → c ∣ m
  | [], m => by simp [lcmL]
  | c :: L, m => by
    unfold lcmL
    by_cases h : 0 < c
    · rw [if_pos h]
      constructor
      · intro hd x hx h0
        rcases List.mem_cons.1 hx with rfl | hx
        · exact Nat.dvd_trans (Nat.dvd_lcm_left _ _) hd
        · exact (lcmL_dvd L m).1 (Nat.dvd_trans (Nat.dvd_lcm_right _ _) hd) x hx h0
      · intro hd
        exact Nat.lcm_dvd (hd c (by simp) h) ((lcmL_dvd L m).2 fun x hx h0 => hd x (by simp [hx]) h0)
    · rw [if_neg h, lcmL_dvd L m]
      constructor
      · intro hd x hx h0
        rcases List.mem_cons.1 hx with rfl | hx
        · exact absurd h0 h
        · exact hd x hx h0
      · exact fun hd x hx h0 => hd x (by simp [hx]) h0
theorem lcmL_congr (L M : List Nat) (h : ∀ c, 0 < c → (c ∈ L ↔ c ∈ M)) : lcmL L = lcmL M :=
  Nat.dvd_antisymm ((lcmL_dvd L _).2 fun c hc h0 => (lcmL_dvd M _).1 (Nat.dvd_refl _) c ((h c h0).1 hc) h0)
    ((lcmL_dvd M _).2 fun c hc h0 => (lcmL_dvd L _).1 (Nat.dvd_refl _) c ((h c h0).2 hc) h0)
theorem lcmL_mem (L : List Nat) (c : Nat) (hc : c ∈ L) (h0 : 0 < c) : c ∣ lcmL L := (lcmL_dvd L _).1 (Nat.dvd_refl _) c hc h0
theorem lcmL_pos : ∀ (L : List Nat), 0 < lcmL L
  | [] => by simp [lcmL]
  | c :: L => by
    unfold lcmL
    split
    · rename_i h; exact Nat.lcm_pos h (lcmL_pos L)
    · exact lcmL_pos L
theorem lcmL_snoc (L : List Nat) (c : Nat) (h : 0 < c) : lcmL (L ++ [c]) = Nat.lcm (lcmL L) c := by
  have e : lcmL (L ++ [c]) = lcmL (c :: L) := lcmL_congr _ _ fun x _ => by simp [or_comm]
  rw [e]
  show (if 0 < c then Nat.lcm c (lcmL L) else lcmL L) = _
  rw [if_pos h, Nat.lcm_comm]
theorem lcmL_snoc0 (L : List Nat) : lcmL (L ++ [0]) = lcmL L := lcmL_congr _ _ fun x hx => by simp; omega
/-- One step of the common denominator. -/
theorem lcm_step (L : List Nat) (c : Nat) (h : 0 < c) (hs : lcmL L ≤ 1000000000000000) : timesN (satN (lcmL L)) (c / Nat.gcd (satN (lcmL L)) c) = satN (lcmL (L ++ [c])) := by
  rw [satN_id _ hs, times_sat, lcmL_snoc L c h]
  congr 1
  unfold Nat.lcm
  exact (Nat.mul_div_assoc _ (Nat.gcd_dvd_right _ _)).symm
theorem lcmL_le (L M : List Nat) (h : ∀ c ∈ L, c ∈ M) : lcmL L ≤ lcmL M :=
  Nat.le_of_dvd (lcmL_pos M) ((lcmL_dvd L _).2 fun c hc h0 => lcmL_mem M c (h c hc) h0)
/-- The states that are reached in k steps, with those that are reached twice. -/
def lay (H : HV) (s0 : St) : Nat → List St
  | 0 => [s0]
  | k + 1 => (lay H s0 k).flatMap fun s => (brs H s).map Prod.snd
theorem mem_lay (H : HV) (s0 : St) : ∀ k t, t ∈ lay H s0 k ↔ Reach H s0 k t
  | 0, t => by simp [lay, Reach]
  | k + 1, t => by
    unfold lay Reach
    rw [List.mem_flatMap]
    constructor
    · rintro ⟨s, hs, ht⟩
      obtain ⟨x, hx, rfl⟩ := List.mem_map.1 ht
      exact ⟨s, (mem_lay H s0 k s).1 hs, x.1, hx⟩
    · rintro ⟨s, hs, w, hw⟩
      exact ⟨s, (mem_lay H s0 k s).2 hs, List.mem_map.2 ⟨_, hw, rfl⟩⟩
/-- The common denominator of a step. -/
def comK (H : HV) (s0 : St) (k : Nat) : Nat := lcmL ((lay H s0 k).map (chN H))
/-- The weight of the courses at whose end P holds, by the denominators of the steps. -/
def wtU (H : HV) (P : St → Bool) : List Nat → St → Nat
  | [], s => if P s then 1 else 0
  | c :: cs, s => ((brs H s).map fun x => c / chN H s * x.1 * wtU H P cs x.2).sum
/-- The denominators of the steps from number k on. -/
def comL (H : HV) (s0 : St) : Nat → Nat → List Nat
  | _, 0 => []
  | k, m + 1 => comK H s0 k :: comL H s0 (k + 1) m
def prodL : List Nat → Nat
  | [] => 1
  | c :: L => c * prodL L
theorem sum_map_add {α : Type} (f g : α → Nat) (L : List α) : (L.map fun x => f x + g x).sum = (L.map f).sum + (L.map g).sum := by
  induction L with
  | nil => rfl
  | cons x L ih => simp only [List.map_cons, List.sum_cons, ih]; omega
theorem sum_map_mul {α : Type} (f : α → Nat) (c : Nat) (L : List α) : (L.map fun x => c * f x).sum = c * (L.map f).sum := by
  induction L with
  | nil => rfl
  | cons x L ih => simp only [List.map_cons, List.sum_cons, ih, Nat.mul_add]
theorem sum_map_mul' {α : Type} (f : α → Nat) (c : Nat) (L : List α) : (L.map fun x => f x * c).sum = (L.map f).sum * c := by
  induction L with
  | nil => simp
  | cons x L ih => simp only [List.map_cons, List.sum_cons, ih, Nat.add_mul]
theorem sum_map_zero {α : Type} (L : List α) : (L.map fun _ => 0).sum = 0 := by
  induction L with
  | nil => rfl
  | cons x L ih => simp [ih]
theorem sum_map_congr {α : Type} (f g : α → Nat) (L : List α) (h : ∀ x ∈ L, f x = g x) : (L.map f).sum = (L.map g).sum := by rw [List.map_congr_left h]
/-- What has come to a key. -/
def sumAt (ps : List (St × Nat)) (t : St) : Nat := (ps.map fun p => if p.1 = t then p.2 else 0).sum
theorem sumAt_append (ps qs : List (St × Nat)) (t : St) : sumAt (ps ++ qs) t = sumAt ps t + sumAt qs t := by simp [sumAt]
theorem sum_one (Ls : List St) (h : Ls.Nodup) (q : St) (hq : q ∈ Ls) (f : St → Nat) : (Ls.map fun t => if q = t then f t else 0).sum = f q := by
  induction Ls with
  | nil => cases hq
  | cons x L ih =>
    obtain ⟨h1, h2⟩ := List.nodup_cons.1 h
    rw [List.map_cons, List.sum_cons]
    by_cases e : q = x
    · subst e
      rw [if_pos rfl, sum_map_congr _ (fun _ => 0) L fun t ht => if_neg fun e => h1 (by rw [e]; exact ht), sum_map_zero, Nat.add_zero]
    · rw [if_neg e, Nat.zero_add]
      exact ih h2 ((List.mem_cons.1 hq).resolve_left e)
theorem fiber_sum (Ls : List St) (h : Ls.Nodup) (g : St → Nat) : ∀ (ps : List (St × Nat)), (∀ p ∈ ps, p.1 ∈ Ls) → (Ls.map fun t => sumAt ps t * g t).sum = (ps.map fun p => p.2 * g p.1).sum
  | [], _ => by simp [sumAt, sum_map_zero]
  | p :: ps, hp => by
    have e : ∀ t, sumAt (p :: ps) t * g t = (if p.1 = t then p.2 * g t else 0) + sumAt ps t * g t := fun t => by
      unfold sumAt
      rw [List.map_cons, List.sum_cons, Nat.add_mul]
      congr 1
      split <;> simp
    rw [sum_map_congr _ _ Ls fun t _ => e t, sum_map_add, fiber_sum Ls h g ps fun q hq => hp q (by simp [hq]), sum_one Ls h p.1 (hp p (by simp)) (fun t => p.2 * g t), List.map_cons, List.sum_cons]
/-- The parts that come to the states of the next step. -/
def partsL (H : HV) (c : Nat) (W : St → Nat) (Ls : List St) : List (St × Nat) := Ls.flatMap fun s => (brs H s).map fun x => (x.2, W s * (c / chN H s) * x.1)
theorem flat_sum {α β : Type} (f : β → Nat) (g : α → List β) (L : List α) : ((L.flatMap g).map f).sum = (L.map fun x => ((g x).map f).sum).sum := by
  induction L with
  | nil => rfl
  | cons x L ih => rw [List.flatMap_cons, List.map_append, List.sum_append, ih, List.map_cons, List.sum_cons]
/-- A step leaves the weights that come to the end as they are. -/
theorem parts_wt (H : HV) (P : St → Bool) (c : Nat) (cs : List Nat) (W : St → Nat) (Ls Lt : List St) (hn : Lt.Nodup) (hLt : ∀ s ∈ Ls, ∀ x ∈ brs H s, x.2 ∈ Lt) :
    (Lt.map fun t => sumAt (partsL H c W Ls) t * wtU H P cs t).sum = (Ls.map fun s => W s * wtU H P (c :: cs) s).sum := by
  rw [fiber_sum Lt hn _ _ fun p hp => by
    obtain ⟨s, hs, hp⟩ := List.mem_flatMap.1 hp
    obtain ⟨x, hx, rfl⟩ := List.mem_map.1 hp
    exact hLt s hs x hx]
  unfold partsL
  rw [flat_sum]
  refine sum_map_congr _ _ _ fun s _ => ?_
  rw [List.map_map]
  show _ = W s * ((brs H s).map fun x => c / chN H s * x.1 * wtU H P cs x.2).sum
  rw [← sum_map_mul]
  refine sum_map_congr _ _ _ fun x _ => ?_
  simp only [Function.comp]
  rw [Nat.mul_assoc, Nat.mul_assoc, Nat.mul_assoc]
/-- .. and all of them together are as many as the denominator says. -/
theorem parts_sum (H : HV) (c : Nat) (W : St → Nat) (Ls Lt : List St) (hn : Lt.Nodup) (hLt : ∀ s ∈ Ls, ∀ x ∈ brs H s, x.2 ∈ Lt) (hc : ∀ s ∈ Ls, chN H s ∣ c) (hp : ∀ s ∈ Ls, 0 < chN H s) :
    (Lt.map fun t => sumAt (partsL H c W Ls) t).sum = c * (Ls.map W).sum := by
  have h := fiber_sum Lt hn (fun _ => 1) (partsL H c W Ls) fun p hp => by
    obtain ⟨s, hs, hp⟩ := List.mem_flatMap.1 hp
    obtain ⟨x, hx, rfl⟩ := List.mem_map.1 hp
    exact hLt s hs x hx
  simp only [Nat.mul_one] at h
  rw [h]
  unfold partsL
  rw [flat_sum, ← sum_map_mul]
  refine sum_map_congr _ _ _ fun s hs => ?_
  rw [List.map_map]
  have e : ((brs H s).map ((fun p : St × Nat => p.2) ∘ fun x => (x.2, W s * (c / chN H s) * x.1))).sum = W s * (c / chN H s) * chN H s := by
    unfold chN
    rw [← sum_map_mul]
    rfl
  rw [e, Nat.mul_assoc, Nat.div_mul_cancel (hc s hs), Nat.mul_comm]
end Go.Proofs.Ytmjnelkeiogdcaa
