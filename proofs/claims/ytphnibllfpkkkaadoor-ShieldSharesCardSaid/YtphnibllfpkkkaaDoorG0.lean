/- Gray's order of the numbers of charts; the facts of all of it by the kernel. -/
import Derived.Test.YtphnibllfpkkkaaDoorV9
namespace Go.Proofs.YtphnibllfpkkkaaDoor
open Go Go.RowKit
set_option maxRecDepth 100000

/-- A test at 2^d numbers from a on. -/
def allB (p : Nat → Bool) (d : Nat) : Nat → Bool := Nat.rec (motive := fun _ => Nat → Bool) (fun a => p a) (fun d ih a => ih a && ih (a + 2 ^ d)) d
theorem allB_at (p : Nat → Bool) : ∀ d a, allB p d a = true → ∀ i, a ≤ i → i < a + 2 ^ d → p i = true
  | 0, a, h, i, h1, h2 => by
    obtain rfl : i = a := by have : (2 : Nat) ^ 0 = 1 := rfl; omega
    exact h
  | d + 1, a, h, i, h1, h2 => by
    have h' : (allB p d a && allB p d (a + 2 ^ d)) = true := h
    rw [Bool.and_eq_true] at h'
    rw [Nat.pow_succ] at h2
    by_cases hi : i < a + 2 ^ d
    · exact allB_at p d a h'.1 i h1 hi
    · exact allB_at p d (a + 2 ^ d) h'.2 i (by omega) (by omega)

/-- The number at a place of Gray's order. -/
def gr (i : Nat) : Nat := i ^^^ i / 2
def lowBit (i : Nat) : Nat := i &&& (18446744073709551616 - i)
def tz (i : Nat) : Nat := Nat.log2 (lowBit i)
/-- The place of a number in Gray's order. -/
def ungr (n : Nat) : Nat :=
  let a := n ^^^ n / 2
  let b := a ^^^ a / 4
  let c := b ^^^ b / 16
  c ^^^ c / 256
def grayOk (i : Nat) : Bool := gr i < 65536 && ungr i < 65536 && ungr (gr i) == i && gr (ungr i) == i && (i == 0 || (2 ^ tz i == lowBit i && tz i < 16 && gr (i - 1) ^^^ 2 ^ tz i == gr i))
theorem gray_all : allB grayOk 16 0 = true := by decide +kernel
theorem gray_at (i : Nat) (hi : i < 65536) : gr i < 65536 ∧ ungr i < 65536 ∧ ungr (gr i) = i ∧ gr (ungr i) = i ∧ (0 < i → 2 ^ tz i = lowBit i ∧ tz i < 16 ∧ gr (i - 1) ^^^ 2 ^ tz i = gr i) := by
  have h := allB_at grayOk 16 0 gray_all i (Nat.zero_le _) (by simpa using hi)
  simp only [grayOk, Bool.and_eq_true, Bool.or_eq_true, decide_eq_true_eq, beq_iff_eq] at h
  obtain ⟨⟨⟨⟨h1, h2⟩, h3⟩, h4⟩, h5⟩ := h
  refine ⟨h1, h2, h3, h4, fun h0 => ?_⟩
  rcases h5 with h5 | ⟨⟨h5, h6⟩, h7⟩
  · omega
  · exact ⟨h5, h6, h7⟩

end Go.Proofs.YtphnibllfpkkkaaDoor
