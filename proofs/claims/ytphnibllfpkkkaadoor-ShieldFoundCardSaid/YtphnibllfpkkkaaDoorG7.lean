/- The plain law of ShieldFound: a copy of a chart with few marks changed. -/
import Derived.Test.YtphnibllfpkkkaaDoorG5
import Derived.Test.YtphnibllfpkkkaaDoorW18
import Derived.Test.YtphnibllfpkkkaaDoorV4
namespace Go.Proofs.YtphnibllfpkkkaaDoor
open Go Go.RowKit
set_option maxRecDepth 100000

def flip1 (F : Nat → Nat) (p q : Nat) : Nat → Nat := upN F (p % 16) (F (p % 16) ^^^ 2 ^ (q % 4))
theorem pow4 (q : Nat) : 2 ^ (q % 4) < 16 ∧ onT (2 ^ (q % 4)) 4 = 1 := by
  have : q % 4 = 0 ∨ q % 4 = 1 ∨ q % 4 = 2 ∨ q % 4 = 3 := by omega
  rcases this with h | h | h | h <;> rw [h] <;> decide
theorem flip1_lt (F : Nat → Nat) (hF : ∀ i, i < 16 → F i < 16) (p q : Nat) : ∀ i, i < 16 → flip1 F p q i < 16 := fun i hi => by
  unfold flip1 upN
  split
  · exact x4 _ _ (hF _ (Nat.mod_lt _ (by omega))) (pow4 q).1
  · exact hF i hi
theorem dist_flip (F : Nat → Nat) (p q : Nat) : dist (flip1 F p q) F ≤ 1 := by
  have h : dist (flip1 F p q) F = sumN (fun i => if i = p % 16 then 1 else 0) 16 := sumN_congr 16 fun i hi => by
    show onT (flip1 F p q i ^^^ F i) 4 = _
    unfold flip1 upN
    by_cases e : i = p % 16
    · simp only [if_pos e]
      rw [e, Nat.xor_comm (F _), Nat.xor_assoc, Nat.xor_self, Nat.xor_zero]
      exact (pow4 q).2
    · simp only [if_neg e]
      rw [Nat.xor_self]; rfl
  rw [h, sumN_one]
  split <;> omega
/-- After k changes. -/
def flipN (F P Q : Nat → Nat) : Nat → Nat → Nat
  | 0 => F
  | k + 1 => flip1 (flipN F P Q k) (P k) (Q k)
theorem flipN_lt (F P Q : Nat → Nat) (hF : ∀ i, i < 16 → F i < 16) : ∀ k i, i < 16 → flipN F P Q k i < 16
  | 0 => hF
  | k + 1 => flip1_lt _ (flipN_lt F P Q hF k) _ _
theorem dist_self (F : Nat → Nat) : dist F F = 0 := sumN_none (fun i _ => by show onT (F i ^^^ F i) 4 = 0; rw [Nat.xor_self]; rfl)
theorem dist_flips (F P Q : Nat → Nat) (hF : ∀ i, i < 16 → F i < 16) : ∀ k, dist (flipN F P Q k) F ≤ k
  | 0 => Nat.le_of_eq (dist_self F)
  | k + 1 => by
    have h1 := dist_flips F P Q hF k
    have h2 := dist_flip (flipN F P Q k) (P k) (Q k)
    have h3 := dist_tri (flipN F P Q (k + 1)) (flipN F P Q k) F (flipN_lt F P Q hF (k + 1)) (flipN_lt F P Q hF k) hF
    have e : flipN F P Q (k + 1) = flip1 (flipN F P Q k) (P k) (Q k) := rfl
    rw [e] at h3 ⊢
    omega
/-- What is said of a copy with few marks changed. -/
structure FoundAt (B : Nat → Nat) (n0 ch mm cc ll : Nat) : Prop where
  wrong : wl B 16 = [] ↔ ch = 0
  marks : mm = 0 ↔ ch = 0
  le : mm ≤ ch
  some : 1 ≤ cc
  two : ch ≤ 2 → mm = ch ∧ cc = 1 ∧ ll = n0
  right : wl (der (mths ll)) 16 = []
  last : ll < 65536
theorem found (n0 N : Nat) (hN : 65536 = N) (hn0 : n0 < N) (B : Nat → Nat) (hB : ∀ i, i < 16 → B i < 16) (ch : Nat) (hch : dist B (der (mths n0)) = ch) (h5 : ch ≤ 5) (mm cc ll : Nat) (hst : rst (DF B) N = (mm, cc, ll)) : FoundAt B n0 ch mm cc ll := by
  obtain ⟨hb, _⟩ := rst_mL (DF B) (DF_le B hB) N hN
  rw [hst] at hb
  simp only at hb
  have hlt : ∀ n, ∀ i, i < 16 → der (mths n) i < 16 := fun n => der_lt (mths n) (fun i _ => mths_lt n i)
  have h0 : DF B n0 = ch := by rw [← hch]; exact dist_comm _ _
  have far : ∀ k, k < N → k ≠ n0 → 6 ≤ DF B k + ch := fun k hk hne => by
    have h1 := dist_charts k n0 (by omega) (by omega) hne
    have h2 := dist_tri (der (mths k)) B (der (mths n0)) (hlt k) hB (hlt n0)
    have e : DF B k = dist (der (mths k)) B := rfl
    omega
  have hw : wl B 16 = [] ↔ ch = 0 := by
    rw [wl_nil]
    constructor
    · intro h
      have hn1 : num B 4 < 65536 := num_lt B (fun i hi => hB i (by omega)) 4 (by omega)
      have he := der_unique (mths (num B 4)) B (fun i hi => (mths_num B (fun i hi => hB i (by omega)) i hi).symm) h
      have hd : DF B (num B 4) = 0 := (dist_zero _ _ (hlt _) hB).2 he
      by_cases e : num B 4 = n0
      · rw [e, h0] at hd; exact hd
      · have := far (num B 4) (by omega) e; omega
    · intro h i hi h4
      rw [h] at hch
      have he := (dist_zero _ _ hB (hlt n0)).1 hch
      rw [he i hi, der_fol (mths n0) i h4 hi]
      exact fol_congr i hi (fun j hj => (he j (by omega)).symm) h4
  have hle : mm ≤ ch := by rw [← h0]; exact hb.low n0 hn0
  refine ⟨hw, ?_, hle, ?_, ?_, (chart_wl _).1 (chart_der _), by have := hb.at1; omega⟩
  · constructor
    · intro h
      by_cases e : ll = n0
      · rw [← h0, ← e, hb.at2]; exact h
      · have := far ll hb.at1 e
        have := hb.at2
        omega
    · intro h; omega
  · rcases Nat.eq_zero_or_pos cc with h | h
    · have hc := hb.count
      rw [h] at hc
      have := (sumN_eq0 N).1 hc.symm ll hb.at1
      rw [if_pos hb.at2] at this
      omega
    · exact h
  · intro h2
    have hl : ll = n0 := Classical.byContradiction fun e => by
      have := far ll hb.at1 e
      have := hb.at2
      omega
    have hm : mm = ch := by rw [← h0, ← hl]; exact hb.at2.symm
    refine ⟨hm, ?_, hl⟩
    rw [hb.count]
    have e : sumN (fun k => if DF B k = mm then 1 else 0) N = sumN (fun k => if k = n0 then 1 else 0) N := sumN_congr N fun k hk => by
      by_cases ek : k = n0
      · rw [if_pos ek, ek, h0, if_pos hm.symm]
      · rw [if_neg ek, if_neg]
        have := far k hk ek
        omega
    rw [e, sumN_one, if_pos hn0]
end Go.Proofs.YtphnibllfpkkkaaDoor
