/- Words: pack, TrailingZeros. -/
import Derived.Test.YtcdbkgpgjjeoiaaDoorW4
import Derived.Test.YtcdbkgpgjjeoiaaDoorG1
import Derived.Deep.DeepMust
namespace Go.Proofs.YtcdbkgpgjjeoiaaDoor
open Go Go.RowKit
set_option maxRecDepth 100000

theorem bits_natU (a : Nat) (h : a < 18446744073709551616) : (BitVec.ofInt 64 (a : Int)).toNat = a := by
  rw [BitVec.toNat_ofInt]; omega
theorem wrap_natU (a : Nat) (h : a < 18446744073709551616) : IntKind.u64.wrap (a : Int) = a := by
  show ((a : Int) % 18446744073709551616) = a
  omega
theorem u64_xor (a b : Nat) (ha : a < 18446744073709551616) (hb : b < 18446744073709551616) : bits .xor .u64 (a : Int) (b : Int) = ((a ^^^ b : Nat) : Int) := by
  show IntKind.u64.wrap (((BitVec.ofInt 64 (a : Int) ^^^ BitVec.ofInt 64 (b : Int)).toNat : Nat) : Int) = _
  rw [BitVec.toNat_xor, bits_natU a ha, bits_natU b hb]
  exact wrap_natU _ (Nat.xor_lt_two_pow (n := 64) ha hb)
theorem u64_and (a b : Nat) (ha : a < 18446744073709551616) (hb : b < 18446744073709551616) : bits .and .u64 (a : Int) (b : Int) = ((a &&& b : Nat) : Int) := by
  show IntKind.u64.wrap (((BitVec.ofInt 64 (a : Int) &&& BitVec.ofInt 64 (b : Int)).toNat : Nat) : Int) = _
  rw [BitVec.toNat_and, bits_natU a ha, bits_natU b hb]
  exact wrap_natU _ (Nat.lt_of_le_of_lt Nat.and_le_left ha)
theorem u64_or (a b : Nat) (ha : a < 18446744073709551616) (hb : b < 18446744073709551616) : bits .or .u64 (a : Int) (b : Int) = ((a ||| b : Nat) : Int) := by
  show IntKind.u64.wrap (((BitVec.ofInt 64 (a : Int) ||| BitVec.ofInt 64 (b : Int)).toNat : Nat) : Int) = _
  rw [BitVec.toNat_or, bits_natU a ha, bits_natU b hb]
  exact wrap_natU _ (Nat.or_lt_two_pow (n := 64) ha hb)

theorem pk_step (F : Nat → Nat) (k : Nat) (hF : ∀ i, i < 16 → F i < 16) (hk : k < 16) : bits .or .u64 ((pk F k : Nat) : Int) (((F k * 2 ^ (4 * k) : Nat) : Nat) : Int) = ((pk F (k + 1) : Nat) : Int) := by
  have h1 := pk_lt F 16 hF k (by omega)
  have h2 := pk_lt F 16 hF (k + 1) (by omega)
  have hle : 2 ^ (4 * (k + 1)) ≤ 2 ^ 64 := Nat.pow_le_pow_right (by omega) (by omega)
  have e : pk F (k + 1) = pk F k + F k * 2 ^ (4 * k) := rfl
  rw [u64_or _ _ (by omega) (by omega), e, Nat.or_comm, Nat.mul_comm (F k), ← Nat.two_pow_add_eq_or_of_lt h1]
  congr 1; omega
theorem pk_bd (F : Nat → Nat) (k : Nat) (hF : ∀ i, i < 16 → F i < 16) (hk : k < 16) : F k * 2 ^ (4 * k) < 18446744073709551616 ∧ pk F k < 18446744073709551616 := by
  have h2 := pk_lt F 16 hF (k + 1) (by omega)
  have hle : 2 ^ (4 * (k + 1)) ≤ 2 ^ 64 := Nat.pow_le_pow_right (by omega) (by omega)
  have e : pk F (k + 1) = pk F k + F k * 2 ^ (4 * k) := rfl
  omega

/-- The table of the lowest bits. -/
def tzT : List Nat := [0, 1, 56, 2, 57, 49, 28, 3, 61, 58, 42, 50, 38, 29, 17, 4, 62, 47, 59, 36, 45, 43, 51, 22, 53, 39, 33, 30, 24, 18, 12, 5, 63, 55, 48, 27, 60, 41, 37, 16, 46, 35, 44, 21, 52, 32, 23, 11, 54, 26, 40, 15, 34, 20, 31, 10, 25, 14, 19, 9, 13, 8, 7, 6]
structure LaidB (w : World) : Prop where
  size : 3 < w.heap.size
  tab : ∀ i, i < 64 → w.cell? ⟨3, i, none⟩ = some (.int .u8 ((tzT.getD i 0 : Nat) : Int))
theorem LaidB.below {w w' : World} (h : LaidB w) (hb : Below w.heap.size w w') : LaidB w' :=
  ⟨Nat.lt_of_lt_of_le h.size hb.size, fun i hi => (hb.cell (p := ⟨3, i, none⟩) h.size).trans (h.tab i hi)⟩
theorem tz_tab (k : Nat) (hk : k < 16) : 2 ^ k * 285870213051353865 % 18446744073709551616 / 288230376151711744 < 64 ∧ tzT.getD (2 ^ k * 285870213051353865 % 18446744073709551616 / 288230376151711744) 0 = k := by
  have : ∀ k : Fin 16, 2 ^ k.1 * 285870213051353865 % 18446744073709551616 / 288230376151711744 < 64 ∧ tzT.getD (2 ^ k.1 * 285870213051353865 % 18446744073709551616 / 288230376151711744) 0 = k.1 := by decide +kernel
  exact this ⟨k, hk⟩
theorem neg_and (i : Nat) (h0 : 0 < i) (hi : i < 65536) : bits .and .u64 ((i : Nat) : Int) (IntKind.u64.wrap (-((i : Nat) : Int))) = ((2 ^ tz i : Nat) : Int) := by
  have e : IntKind.u64.wrap (-((i : Nat) : Int)) = ((18446744073709551616 - i : Nat) : Int) := by
    show (-((i : Nat) : Int)) % 18446744073709551616 = _
    omega
  rw [e, u64_and _ _ (by omega) (by omega), ((gray_at i hi).2.2.2.2 h0).1]
  rfl

set_option maxHeartbeats 400000 in
theorem tz64_c (i : Nat) (h0 : 0 < i) (hi : i < 65536) (w : World) (L : LaidB w) :
    Calls Tryd.prog 92 #[.int .u64 (i : Nat)] w fun e w' => e = .returned (.int .i64 ((tz i : Nat) : Int)) ∧ w = w' := by
  have ht := ((gray_at i hi).2.2.2.2 h0).2.1
  obtain ⟨t1, t2⟩ := tz_tab (tz i) ht
  have hcell := L.tab _ t1
  have hs := L.size
  have hneg := neg_and i h0 hi
  rw [t2] at hcell
  have hne : (((i : Nat) : Int) == 0) = false := by simp; omega
  have hp16 : 2 ^ tz i ≤ 2 ^ 15 := Nat.pow_le_pow_right (by omega) (by omega)
  have hm : IntKind.u64.wrap (((2 ^ tz i : Nat) : Int) * 285870213051353865) = ((2 ^ tz i * 285870213051353865 % 18446744073709551616 : Nat) : Int) := by
    show (((2 ^ tz i : Nat) : Int) * 285870213051353865) % 18446744073709551616 = _
    rw [Int.natCast_emod, Int.natCast_mul]
    rfl
  generalize tz i = t at *
  generalize 2 ^ t = p at *
  have hm0 : p * 285870213051353865 % 18446744073709551616 < 18446744073709551616 := Nat.mod_lt _ (by omega)
  generalize p * 285870213051353865 % 18446744073709551616 = m at *
  clear hp16 hm0 L
  go_enter Tryd.func92, Tryd.ntmps92
  go_wp2_with fail
  go_ret
  exact ⟨rfl, rfl⟩
theorem tz_c (i : Nat) (h0 : 0 < i) (hi : i < 65536) (w : World) (L : LaidB w) :
    Calls Tryd.prog 71 #[.int .u64 (i : Nat)] w fun e w' => e = .returned (.int .i64 ((tz i : Nat) : Int)) ∧ w = w' := by
  have H := hid (tz64_c i h0 hi w L)
  clear L
  go_enter Tryd.func71, Tryd.ntmps71
  go_wp2_with (go_at_call 92; refine H.out.mono ?_; rintro e w' ⟨rfl, rfl⟩)
  go_ret
  exact ⟨rfl, rfl⟩
end Go.Proofs.YtcdbkgpgjjeoiaaDoor
