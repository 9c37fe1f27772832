/- Walks of package witness: within, salts, hashes. -/
import Derived.Test.YtbcileppebpamaaGreatDoorPlain
import Derived.Test.YtbcileppebpamaaGreatDoorSm
import Derived.Test.YtbcileppebpamaaGreatDoorWA
import Derived.Shelf.Strings.SlTrimAscii
import Derived.Shelf.Strings.Repeat
import Derived.Shelf.Strings.OnBuilder
import Derived.Shelf.Strconv.Itoa3
import Derived.Lib.ConvBytes
import Derived.Lib.AtoiErrMem
set_option linter.unusedSimpArgs false
set_option linter.unusedVariables false
namespace Go.Proofs.YtbcileppebpamaaGreatDoor
open Go Go.RowKit Go.Shelf
set_option maxRecDepth 100000

theorem within_c (n a b : Int) (w : World) : Calls Tryz.prog 36 #[.int .i64 n, .int .i64 a, .int .i64 b] w fun e w' => e = .returned (.bool (decide (a ≤ n) && decide (n ≤ b))) ∧ w = w' := by
  by_cases h1 : a ≤ n
  · have d1 : decide (a ≤ n) = true := decide_eq_true h1
    go_enter Tryz.func36, Tryz.ntmps36
    go_wp2_with fail
    go_ret
    exact ⟨by simp [d1], rfl⟩
  · have d1 : decide (a ≤ n) = false := decide_eq_false h1
    go_enter Tryz.func36, Tryz.ntmps36
    go_wp2_with fail
    go_ret
    exact ⟨by simp [d1], rfl⟩
/-- One byte more. -/
theorem mul_u64 (x : Nat) : IntKind.u64.wrap (((x : Nat) : Int) * 1099511628211) = ((x * 1099511628211 % 18446744073709551616 : Nat) : Int) := by
  show (((x : Nat) : Int) * 1099511628211) % 18446744073709551616 = _
  rw [Int.natCast_emod, Int.natCast_mul]
  rfl
theorem bits_natU (a : Nat) (h : a < 18446744073709551616) : (BitVec.ofInt 64 (a : Int)).toNat = a := by
  rw [BitVec.toNat_ofInt]; omega
theorem wrap_natU (a : Nat) (h : a < 18446744073709551616) : IntKind.u64.wrap (a : Int) = a := by
  show ((a : Int) % 18446744073709551616) = a
  omega
theorem u64_xor (a b : Nat) (ha : a < 18446744073709551616) (hb : b < 18446744073709551616) : bits .xor .u64 (a : Int) (b : Int) = ((a ^^^ b : Nat) : Int) := by
  show IntKind.u64.wrap (((BitVec.ofInt 64 (a : Int) ^^^ BitVec.ofInt 64 (b : Int)).toNat : Nat) : Int) = _
  rw [BitVec.toNat_xor, bits_natU a ha, bits_natU b hb]
  exact wrap_natU _ (Nat.xor_lt_two_pow (n := 64) ha hb)
theorem u64_and (a b : Nat) (ha : a < 18446744073709551616) (hb : b < 18446744073709551616) : bits .and .u64 (a : Int) (b : Int) = ((a &&& b : Nat) : Int) := by
  show IntKind.u64.wrap (((BitVec.ofInt 64 (a : Int) &&& BitVec.ofInt 64 (b : Int)).toNat : Nat) : Int) = _
  rw [BitVec.toNat_and, bits_natU a ha, bits_natU b hb]
  exact wrap_natU _ (Nat.lt_of_le_of_lt Nat.and_le_left ha)
theorem u64_and15 (a : Nat) (ha : a < 18446744073709551616) : bits .and .u64 ((a : Nat) : Int) 15 = ((a % 16 : Nat) : Int) := by
  rw [show (15 : Int) = ((15 : Nat) : Int) from rfl, u64_and a 15 ha (by omega), show (15 : Nat) = 2 ^ 4 - 1 from rfl, Nat.and_two_pow_sub_one_eq_mod]
theorem hashN_snoc (h : Nat) (l : List UInt8) (c : UInt8) : hashN h (l ++ [c]) = (hashN h l ^^^ c.toNat) * 1099511628211 % 18446744073709551616 := by
  rw [hashN_app]
  rfl
set_option maxHeartbeats 2000000 in
theorem with_c (h : Nat) (hh : h < 18446744073709551616) (s : ByteArray) (hs : s.size ≤ 1000000) (w : World) :
    Calls Tryz.prog 67 #[.int .u64 ((h : Nat) : Int), .string s] w fun e w' => e = .returned (.int .u64 ((hashN h s.data.toList : Nat) : Int)) ∧ Below w.heap.size w w' := by
  have hcv := Lib.run_convert_string_bytes (P := Tryz.prog) w 9 78 5 s Tryz.underlying9 Tryz.underlying78 Tryz.underlying5
  have hcl := fun j (hj : j < s.size) => Lib.bytesWorld_cell w 5 s j hj
  have hbw := Lib.bytesWorld_below w 5 s
  obtain ⟨n, hn⟩ : ∃ n, s.size = n := ⟨_, rfl⟩
  have hl : s.data.toList.length = n := by rw [Array.length_toList]; exact hn
  obtain ⟨L, hL⟩ : ∃ L, s.data.toList = L := ⟨_, rfl⟩
  rw [hL] at hl hcl ⊢
  rw [hn] at hs hcv hcl
  generalize Lib.bytesWorld w 5 s = wb at hcv hcl hbw
  obtain ⟨cap, hcap⟩ : ∃ cap, grownCap w n 0 5 = cap := ⟨_, rfl⟩
  rw [hcap] at hcv
  have HCL := hid hcl
  have HBW := hid hbw
  have HL := hid hl
  clear hcl hbw hcap hn hL hl
  go_enter Tryz.func67, Tryz.ntmps67
  go_wp2_with fail
  go_loopw [0, 10] (fun hx ix wr => ∃ i : Nat, i ≤ n ∧ hx = .int .u64 ((hashN h (L.take i) : Nat) : Int) ∧ ix = .int .i64 ((i : Nat) : Int) ∧ wr = wb) (fun _ ix _ => n - (intOf ix).toNat)
  case atStart => exact ⟨0, by omega, by rw [List.take_zero]; rfl, rfl, rfl⟩
  case round =>
    obtain ⟨i, hi, rfl, rfl, rfl⟩ := hrel
    have hb := hashN_lt (L.take i) h hh
    rcases Nat.lt_or_ge i n with hlt | hge
    · have hin : decide (((i : Nat) : Int) < ((n : Nat) : Int)) = true := decide_eq_true (by omega)
      have hin' : ((i : Nat) : Int) < ((n : Nat) : Int) := by omega
      have hi0 : (0 : Int) ≤ ((i : Nat) : Int) := by omega
      have hiw : IntKind.i64.wrap (((i : Nat) : Int) + 1) = ((i + 1 : Nat) : Int) := (IntWalk.i64_in _ (by omega)).trans (by omega)
      have hc := HCL.out i hlt
      have hiL : i < L.length := by rw [HL.out]; exact hlt
      have hsn := hashN_snoc h (L.take i) L[i]
      have htk : L.take (i + 1) = L.take i ++ [L[i]] := by rw [List.take_add_one, List.getElem?_eq_getElem hiL]; rfl
      rw [← htk] at hsn
      rw [List.getD_eq_getElem?_getD, List.getElem?_eq_getElem hiL, Option.getD_some] at hc
      have hcb : L[i].toNat < 256 := L[i].toNat_lt
      obtain ⟨c, hcc⟩ : ∃ c, L[i].toNat = c := ⟨_, rfl⟩
      rw [hcc] at hc hsn hcb
      obtain ⟨x, hx⟩ : ∃ x, hashN h (L.take i) = x := ⟨_, rfl⟩
      rw [hx] at hsn hb
      rw [hx]
      have hxor := u64_xor x c hb (by omega)
      have hmul := mul_u64 (x ^^^ c)
      have hcu := wrap_natU c (by omega)
      obtain ⟨y, hy⟩ : ∃ y, (x ^^^ c) * 1099511628211 % 18446744073709551616 = y := ⟨_, rfl⟩
      rw [hy] at hsn hmul
      generalize x ^^^ c = xc at hxor hmul hy
      have HS := hid hsn
      clear hsn htk hcc hx hy
      go_wp2_with fail
      go_roundw
      case rel => exact ⟨i + 1, by omega, by rw [HS.out], rfl, trivial⟩
      case measure => simp only [intOf, Int.toNat_natCast]; omega
    · obtain rfl : i = n := by omega
      have hin : decide (((i : Nat) : Int) < ((i : Nat) : Int)) = false := decide_eq_false (by omega)
      have htk : L.take i = L := List.take_of_length_le (by have := HL.out; omega)
      rw [htk]
      go_wp2_with fail
      go_ret
      exact ⟨rfl, HBW.out⟩
end Go.Proofs.YtbcileppebpamaaGreatDoor
