/- The plain law of the houses: marks, rulers, partners. -/
import Derived.Test.YtcdbkgpgjjeoiaaDoorH4
import Derived.Test.YtcdbkgpgjjeoiaaDoorV4
namespace Go.Proofs.YtcdbkgpgjjeoiaaDoor
open Go
set_option maxRecDepth 100000

/-- Two figures below sixteen. -/
theorem two16 {P : Nat → Nat → Prop} (h : ∀ i j : Fin 16, P i j) (a b : Nat) (ha : a < 16) (hb : b < 16) : P a b := h ⟨a, ha⟩ ⟨b, hb⟩
/-- The marks of a figure. -/
def mk (f : Nat) : Nat := ln f 0 + ln f 1 + ln f 2 + ln f 3
/-- How many lines have one mark. -/
def pc (f : Nat) : Nat := f % 2 + f / 2 % 2 + f / 4 % 2 + f / 8 % 2
theorem mk_pc (f : Nat) (hf : f < 16) : mk f = 8 - pc f ∧ pc f ≤ 4 ∧ 4 ≤ mk f ∧ mk f ≤ 8 := by
  have : ∀ f : Fin 16, mk f.1 = 8 - pc f.1 ∧ pc f.1 ≤ 4 ∧ 4 ≤ mk f.1 ∧ mk f.1 ≤ 8 := by decide +kernel
  exact this ⟨f, hf⟩
theorem mk_xor (a b : Nat) (ha : a < 16) (hb : b < 16) : mk (a ^^^ b) % 2 = (mk a + mk b) % 2 :=
  two16 (P := fun a b => mk (a ^^^ b) % 2 = (mk a + mk b) % 2) (by decide +kernel) a b ha hb
/-- The marks of the first k houses. -/
def mks (h : Nat → Nat) : Nat → Nat
  | 0 => 0
  | k + 1 => mks h k + mk (h k)
theorem mks_bd (h : Nat → Nat) (hh : ∀ i, i < 12 → h i < 16) : ∀ k, k ≤ 12 → 4 * k ≤ mks h k ∧ mks h k ≤ 8 * k
  | 0, _ => by simp [mks]
  | k + 1, hk => by
    have h1 := mks_bd h hh k (by omega)
    have h2 := mk_pc (h k) (hh k (by omega))
    rw [mks]
    omega
theorem mks_congr {h g : Nat → Nat} : ∀ k, (∀ i, i < k → h i = g i) → mks h k = mks g k
  | 0, _ => rfl
  | k + 1, e => by rw [mks, mks, mks_congr k (fun i hi => e i (by omega)), e k (by omega)]
/-- The part of fortune. -/
def fort (n : Nat) : Nat := (n - 1) % 12 + 1
/-- The marks of a chart's houses are even. -/
theorem marks_even (M : Nat → Nat) (hM : ∀ i, i < 4 → M i < 16) : mks (der M) 12 % 2 = 0 := by
  have hl := der_lt M hM
  have e8 : der M 8 = der M 0 ^^^ der M 1 := der_fol M 8 (by omega) (by omega)
  have e9 : der M 9 = der M 2 ^^^ der M 3 := der_fol M 9 (by omega) (by omega)
  have e10 : der M 10 = der M 4 ^^^ der M 5 := der_fol M 10 (by omega) (by omega)
  have e11 : der M 11 = der M 6 ^^^ der M 7 := der_fol M 11 (by omega) (by omega)
  have x8 := mk_xor (der M 0) (der M 1) (hl 0 (by omega)) (hl 1 (by omega))
  have x9 := mk_xor (der M 2) (der M 3) (hl 2 (by omega)) (hl 3 (by omega))
  have x10 := mk_xor (der M 4) (der M 5) (hl 4 (by omega)) (hl 5 (by omega))
  have x11 := mk_xor (der M 6) (der M 7) (hl 6 (by omega)) (hl 7 (by omega))
  rw [← e8] at x8
  rw [← e9] at x9
  rw [← e10] at x10
  rw [← e11] at x11
  simp only [mks]
  omega
/-- The rulers. -/
def rulN (f : Nat) : Nat := [6, 1, 2, 3, 5, 4, 5, 8, 0, 0, 1, 2, 3, 4, 7, 6].getD f 0
theorem rul_bd (f : Nat) (hf : f < 16) : rulN f ≤ 8 := by
  have : ∀ f : Fin 16, rulN f.1 ≤ 8 := by decide +kernel
  exact this ⟨f, hf⟩
/-- The figures of a ruler, in order. -/
def ruledL (p : Int) : Nat → List Int
  | 0 => []
  | k + 1 => ruledL p k ++ if p = ((rulN k : Nat) : Int) then [((k : Nat) : Int)] else []
theorem ruledL_len (p : Int) : ∀ k, (ruledL p k).length ≤ k
  | 0 => by simp [ruledL]
  | k + 1 => by
    have := ruledL_len p k
    rw [ruledL, List.length_append]
    split <;> simp <;> omega
/-- How two figures go together. -/
def compN (f g : Nat) : Nat := (if f = g then 1 else 0) + (if f ≠ g ∧ rulN f = rulN g then 2 else 0) + (if f ^^^ g = 15 then 4 else 0) + (if f ≠ g ∧ ln f 0 = ln g 0 then 8 else 0)
theorem comp_comm (f g : Nat) : compN f g = compN g f := by
  unfold compN
  rw [Nat.xor_comm f g]
  simp only [eq_comm (a := f) (b := g), eq_comm (a := rulN f) (b := rulN g), eq_comm (a := ln f 0) (b := ln g 0), ne_eq]
/-- The partner, from 0 on. -/
def parN (s : Nat) : Nat := s ^^^ 1
theorem parN_bd (s : Nat) (hs : s < 12) : parN s < 12 ∧ parN (parN s) = s ∧ parN s ≠ s ∧ parN s + 1 = (if (s + 1) % 2 = 1 then s + 1 + 1 else s + 1 - 1) := by
  have : ∀ s : Fin 12, parN s.1 < 12 ∧ parN (parN s.1) = s.1 ∧ parN s.1 ≠ s.1 ∧ parN s.1 + 1 = (if (s.1 + 1) % 2 = 1 then s.1 + 1 + 1 else s.1 + 1 - 1) := by decide +kernel
  exact this ⟨s, hs⟩
/-- Each figure is among those of its ruler, and of no other one. -/
theorem mem_ruled (p : Int) (f : Nat) : ∀ k, ((f : Nat) : Int) ∈ ruledL p k ↔ f < k ∧ p = ((rulN f : Nat) : Int)
  | 0 => by simp [ruledL]
  | k + 1 => by
    rw [ruledL, List.mem_append, mem_ruled p f k]
    by_cases e : p = ((rulN k : Nat) : Int)
    · rw [if_pos e, List.mem_singleton]
      constructor
      · rintro (⟨h1, h2⟩ | h)
        · exact ⟨by omega, h2⟩
        · obtain rfl : f = k := by omega
          exact ⟨by omega, e⟩
      · rintro ⟨h1, h2⟩
        by_cases h3 : f = k
        · exact .inr (by rw [h3])
        · exact .inl ⟨by omega, h2⟩
    · rw [if_neg e]
      constructor
      · rintro (⟨h1, h2⟩ | h)
        · exact ⟨by omega, h2⟩
        · cases h
      · rintro ⟨h1, h2⟩
        by_cases h3 : f = k
        · subst h3; exact absurd h2 e
        · exact .inl ⟨by omega, h2⟩
theorem ruled_some (p : Nat) (hp : p ≤ 8) : 1 ≤ (ruledL p 16).length := by
  have : ∀ p : Fin 9, 1 ≤ (ruledL ((p.1 : Nat) : Int) 16).length := by decide +kernel
  exact this ⟨p, by omega⟩
end Go.Proofs.YtcdbkgpgjjeoiaaDoor
