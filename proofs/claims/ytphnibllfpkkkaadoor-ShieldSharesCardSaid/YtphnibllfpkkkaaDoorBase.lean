/- Base of the walks over chapter 3: rows of integers, figures, the tables as cells. -/
import Derived.Test.YtphnibllfpkkkaaDoorProg
import Derived.WalkKit
import Derived.WalkLawsBesides
import Derived.BigQuiet
import Derived.Deep.LoopGhost
import Derived.Deep.RegionWith
namespace Go.Proofs.YtphnibllfpkkkaaDoor
open Go Go.RowKit

theorem hid {p : Prop} (h : p) : Hid p := h

/-- A row of ints. -/
def irow (n : Nat) (S : Nat → Int) : Array Value := Array.ofFn (n := n) fun i => .int .i64 (S i)
@[go_sem, simp] theorem irow_size (n : Nat) (S : Nat → Int) : (irow n S).size = n := by simp [irow]
@[go_sem] theorem irow_get (n : Nat) (S : Nat → Int) (i : Nat) (h : i < n) : (irow n S)[i]? = some (.int .i64 (S i)) := by simp [irow, h]
@[go_sem, simp] theorem irow_elem (n : Nat) (S : Nat → Int) (i : Nat) (h : i < (irow n S).size) : (irow n S)[i] = .int .i64 (S i) := by simp [irow]
theorem irow_congr {n : Nat} {S T : Nat → Int} (h : ∀ i, i < n → S i = T i) : irow n S = irow n T := by
  apply Array.ext
  · simp
  · intro i h1 h2; simp only [irow_size] at h1; rw [irow_elem, irow_elem, h i h1]
/-- One place written. -/
def upd (S : Nat → Int) (j : Nat) (v : Int) : Nat → Int := fun i => if i = j then v else S i
theorem irow_set (n : Nat) (S : Nat → Int) (j : Nat) (v : Int) : (irow n S).setIfInBounds j (.int .i64 v) = irow n (upd S j v) := by
  apply Array.ext
  · simp
  · intro i h1 h2
    simp only [Array.size_setIfInBounds, irow_size] at h1
    rw [irow_elem, Array.getElem_setIfInBounds (by simpa using h1)]
    by_cases e : j = i
    · subst e; simp [upd]
    · rw [if_neg e, irow_elem]; simp [upd, Ne.symm e]

/-- A figure. -/
def Fig (f : Int) : Prop := 0 ≤ f ∧ f ≤ 15
instance (f : Int) : Decidable (Fig f) := inferInstanceAs (Decidable (_ ∧ _))

/-- The parents' table, flat. -/
def parT : List Int := [0,0, 0,0, 0,0, 0,0, 0,0, 0,0, 0,0, 0,0, 0,1, 2,3, 4,5, 6,7, 8,9, 10,11, 12,13, 14,0]
def par (i : Nat) : Int := parT.getD i 0
theorem par_bd (i : Nat) : 0 ≤ par i ∧ par i < 16 := by
  by_cases h : i < 32
  · have : ∀ i : Fin 32, 0 ≤ par i ∧ par i < 16 := by decide
    exact this ⟨i, h⟩
  · unfold par; rw [List.getD_eq_getElem?_getD, List.getElem?_eq_none (by simp [parT]; omega)]; simp

/-- The names' table. -/
def namT : List (List UInt8) := [[112, 111, 112, 117, 108, 117, 115], [108, 97, 101, 116, 105, 116, 105, 97], [114, 117, 98, 101, 117, 115], [102, 111, 114, 116, 117, 110, 97, 32, 109, 105, 110, 111, 114], [97, 108, 98, 117, 115], [97, 109, 105, 115, 115, 105, 111], [99, 111, 110, 106, 117, 110, 99, 116, 105, 111], [99, 97, 117, 100, 97, 32, 100, 114, 97, 99, 111, 110, 105, 115], [116, 114, 105, 115, 116, 105, 116, 105, 97], [99, 97, 114, 99, 101, 114], [97, 99, 113, 117, 105, 115, 105, 116, 105, 111], [112, 117, 101, 114], [102, 111, 114, 116, 117, 110, 97, 32, 109, 97, 106, 111, 114], [112, 117, 101, 108, 108, 97], [99, 97, 112, 117, 116, 32, 100, 114, 97, 99, 111, 110, 105, 115], [118, 105, 97]]
def nam (i : Nat) : ByteArray := ⟨(namT.getD i []).toArray⟩

/-- What the package-level variables hold. -/
structure Laid (w : World) : Prop where
  size : 0 < w.heap.size ∧ 1 < w.heap.size
  par : ∀ i, i < 32 → w.cell? ⟨0, i, none⟩ = some (.int .i64 (par i))
  nam : ∀ i, i < 16 → w.cell? ⟨1, i, none⟩ = some (.string (nam i))

theorem Laid.below {w w' : World} (h : Laid w) (hb : Below w.heap.size w w') : Laid w' :=
  ⟨⟨Nat.lt_of_lt_of_le h.size.1 hb.size, Nat.lt_of_lt_of_le h.size.2 hb.size⟩,
   fun i hi => (hb.cell (p := ⟨0, i, none⟩) h.size.1).trans (h.par i hi), fun i hi => (hb.cell (p := ⟨1, i, none⟩) h.size.2).trans (h.nam i hi)⟩

theorem below_drewN {B : Nat} {a w : World} (h : Below B a w) (n : Nat) : Below B a (w.drewN n) := ⟨h.os, h.tape, h.output, h.size, h.block⟩
/-- All old cells and marks read as before. -/
theorem bcell {W w1 : World} (hb : Below W.heap.size W w1) : (∀ b o, b < W.heap.size → w1.cell? ⟨b, o, none⟩ = W.cell? ⟨b, o, none⟩) ∧ (∀ b o, b < W.heap.size → w1.frozen? ⟨b, o, none⟩ = W.frozen? ⟨b, o, none⟩) :=
  ⟨fun b o h => hb.cell (p := ⟨b, o, none⟩) h, fun b o h => hb.frozen (p := ⟨b, o, none⟩) h⟩

/-- From bits of non-negative ints to bits of naturals. -/
theorem bits_nat (a : Nat) (h : a < 9223372036854775808) : (BitVec.ofInt 64 (a : Int)).toNat = a := by
  rw [BitVec.toNat_ofInt]; omega
theorem wrap_nat (a : Nat) (h : a < 9223372036854775808) : IntKind.i64.wrap (a : Int) = a := IntWalk.i64_in _ (by omega)
theorem i64_xor (a b : Nat) (ha : a < 9223372036854775808) (hb : b < 9223372036854775808) : bits .xor .i64 (a : Int) (b : Int) = ((a ^^^ b : Nat) : Int) := by
  show IntKind.i64.wrap (((BitVec.ofInt 64 (a : Int) ^^^ BitVec.ofInt 64 (b : Int)).toNat : Nat) : Int) = _
  rw [BitVec.toNat_xor, bits_nat a ha, bits_nat b hb]
  exact wrap_nat _ (Nat.xor_lt_two_pow (n := 63) ha hb)
theorem i64_and (a b : Nat) (ha : a < 9223372036854775808) (hb : b < 9223372036854775808) : bits .and .i64 (a : Int) (b : Int) = ((a &&& b : Nat) : Int) := by
  show IntKind.i64.wrap (((BitVec.ofInt 64 (a : Int) &&& BitVec.ofInt 64 (b : Int)).toNat : Nat) : Int) = _
  rw [BitVec.toNat_and, bits_nat a ha, bits_nat b hb]
  exact wrap_nat _ (Nat.lt_of_le_of_lt Nat.and_le_left ha)
theorem i64_or (a b : Nat) (ha : a < 9223372036854775808) (hb : b < 9223372036854775808) : bits .or .i64 (a : Int) (b : Int) = ((a ||| b : Nat) : Int) := by
  show IntKind.i64.wrap (((BitVec.ofInt 64 (a : Int) ||| BitVec.ofInt 64 (b : Int)).toNat : Nat) : Int) = _
  rw [BitVec.toNat_or, bits_nat a ha, bits_nat b hb]
  exact wrap_nat _ (Nat.or_lt_two_pow (n := 63) ha hb)
theorem i64_and1 (a : Nat) (ha : a < 9223372036854775808) : bits .and .i64 (a : Int) 1 = ((a % 2 : Nat) : Int) := by
  rw [show (1 : Int) = ((1 : Nat) : Int) from rfl, i64_and a 1 ha (by omega), nat_mask1]
theorem i64_and15 (a : Nat) (ha : a < 9223372036854775808) : bits .and .i64 (a : Int) 15 = ((a % 16 : Nat) : Int) := by
  rw [show (15 : Int) = ((15 : Nat) : Int) from rfl, i64_and a 15 ha (by omega), nat_mask4]
end Go.Proofs.YtphnibllfpkkkaaDoor
