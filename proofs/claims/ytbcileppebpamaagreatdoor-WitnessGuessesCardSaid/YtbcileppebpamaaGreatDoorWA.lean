/- The plain law of witnesses: hashes, salts, digits, shares. -/
import Derived.Test.YtbcileppebpamaaGreatDoorPlain
import Derived.Lib.SlTrimSet
import Derived.Below
set_option linter.unusedSimpArgs false
set_option linter.unusedVariables false
namespace Go.Proofs.YtbcileppebpamaaGreatDoor
open Go Go.RowKit

/-- The hash, byte by byte. -/
def hashN : Nat → List UInt8 → Nat
  | h, [] => h
  | h, c :: l => hashN ((h ^^^ c.toNat) * 1099511628211 % 18446744073709551616) l
theorem hashN_app : ∀ (a b : List UInt8) (h : Nat), hashN h (a ++ b) = hashN (hashN h a) b
  | [], _, _ => rfl
  | _ :: a, b, _ => hashN_app a b _
theorem hashN_lt : ∀ (l : List UInt8) (h : Nat), h < 18446744073709551616 → hashN h l < 18446744073709551616
  | [], _, hh => hh
  | _ :: l, _, _ => hashN_lt l _ (Nat.mod_lt _ (by decide))
def h0N : Nat := 14695981039346656037
/-- A digit of sixteen. -/
def hexD (d : Nat) : UInt8 := if d < 10 then UInt8.ofNat (48 + d) else UInt8.ofNat (87 + d)
/-- The digits of a number, the highest first: as many as are asked for. -/
def hexK : Nat → Nat → List UInt8
  | 0, _ => []
  | k + 1, n => hexK k (n / 16) ++ [hexD (n % 16)]
theorem hexK_len : ∀ k n, (hexK k n).length = k
  | 0, _ => rfl
  | k + 1, n => by simp [hexK, hexK_len k]
def hex16 (n : Nat) : List UInt8 := hexK 16 n
def hashL (l : List UInt8) : List UInt8 := hex16 (hashN h0N l)
/-- What a salt, a hash is made of. -/
def saltB (c : UInt8) : Bool := (decide (97 ≤ c.toNat) && decide (c.toNat ≤ 122)) || (decide (48 ≤ c.toNat) && decide (c.toNat ≤ 57))
def hexB (c : UInt8) : Bool := (decide (97 ≤ c.toNat) && decide (c.toNat ≤ 102)) || (decide (48 ≤ c.toNat) && decide (c.toNat ≤ 57))
def isSaltL (l : List UInt8) : Bool := decide (1 ≤ l.length) && decide (l.length ≤ 20) && l.all saltB
def isHashL (l : List UInt8) : Bool := decide (l.length = 16) && l.all hexB
/-- How many digits are told. -/
def hexLen : Nat → Nat → Nat
  | 0, _ => 1
  | f + 1, n => if n < 16 then 1 else hexLen f (n / 16) + 1
/-- The digits without noughts in front. -/
def hexS : Nat → Nat → List UInt8
  | 0, n => [hexD n]
  | f + 1, n => if n < 16 then [hexD n] else hexS f (n / 16) ++ [hexD (n % 16)]
theorem hexK_zero : ∀ k, hexK k 0 = List.replicate k 48
  | 0 => rfl
  | k + 1 => by
    rw [hexK, show 0 / 16 = 0 from rfl, hexK_zero k, List.replicate_succ']
    rfl
/-- Noughts in front make them sixteen. -/
theorem hexS_pad : ∀ (f k n : Nat), f < k → n < 16 ^ (f + 1) → (hexS f n).length ≤ f + 1 ∧ 1 ≤ (hexS f n).length ∧ List.replicate (k - (hexS f n).length) 48 ++ hexS f n = hexK k n
  | 0, k, n, hk, hn => by
    obtain ⟨j, rfl⟩ : ∃ j, k = j + 1 := ⟨k - 1, by omega⟩
    have h16 : n < 16 := by simpa using hn
    refine ⟨by simp [hexS], by simp [hexS], ?_⟩
    simp only [hexS, List.length_singleton, Nat.add_sub_cancel, hexK]
    rw [Nat.div_eq_of_lt h16, Nat.mod_eq_of_lt h16, hexK_zero]
  | f + 1, k, n, hk, hn => by
    obtain ⟨j, rfl⟩ : ∃ j, k = j + 1 := ⟨k - 1, by omega⟩
    rw [hexS]
    by_cases h : n < 16
    · rw [if_pos h]
      refine ⟨by simp, by simp, ?_⟩
      simp only [List.length_singleton, Nat.add_sub_cancel, hexK]
      rw [Nat.div_eq_of_lt h, Nat.mod_eq_of_lt h, hexK_zero]
    · rw [if_neg h]
      have hn' : n / 16 < 16 ^ (f + 1) := by
        rw [Nat.div_lt_iff_lt_mul (by decide)]
        rw [Nat.pow_succ] at hn
        exact hn
      obtain ⟨h1, h2, h3⟩ := hexS_pad f j (n / 16) (by omega) hn'
      refine ⟨by simp; omega, by simp, ?_⟩
      rw [hexK, ← h3, List.length_append, List.length_singleton, show j + 1 - ((hexS f (n / 16)).length + 1) = j - (hexS f (n / 16)).length by omega, List.append_assoc]
/-- Shares. -/
def shrN (b : Nat) : List Nat → Nat → Nat
  | [], n => n
  | s :: l, n => shrN b l ((n + s) % b)
theorem shrN_eq (b : Nat) (hb : 0 < b) : ∀ (l : List Nat) (n : Nat), n < b → shrN b l n = (n + l.sum) % b
  | [], n, h => by simp [shrN, Nat.mod_eq_of_lt h]
  | s :: l, n, h => by
    rw [shrN, shrN_eq b hb l _ (Nat.mod_lt _ hb), List.sum_cons, Nat.mod_add_mod]
    congr 1
    omega
end Go.Proofs.YtbcileppebpamaaGreatDoor
