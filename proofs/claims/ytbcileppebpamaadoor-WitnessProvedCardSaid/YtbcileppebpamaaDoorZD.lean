/- Walks of law WitnessProved: line; bits. -/
import Derived.Test.YtbcileppebpamaaDoorZC
set_option linter.unusedSimpArgs false
set_option linter.unusedVariables false
namespace Go.Proofs.YtbcileppebpamaaDoor
open Go Go.RowKit Go.Shelf
set_option maxRecDepth 100000

theorem bits8 (a : Nat) (h : a < 256) : (BitVec.ofInt 8 (a : Int)).toNat = a := by
  rw [BitVec.toNat_ofInt]; omega
theorem wrap8 (a : Nat) (h : a < 256) : IntKind.u8.wrap (a : Int) = a := by
  show ((a : Int) % 256) = a
  omega
theorem u8_or (a b : Nat) (ha : a < 256) (hb : b < 256) : bits .or .u8 (a : Int) (b : Int) = ((a ||| b : Nat) : Int) := by
  show IntKind.u8.wrap (((BitVec.ofInt 8 (a : Int) ||| BitVec.ofInt 8 (b : Int)).toNat : Nat) : Int) = _
  rw [BitVec.toNat_or, bits8 a ha, bits8 b hb]
  exact wrap8 _ (Nat.or_lt_two_pow (n := 8) ha hb)
theorem u8_xor (a b : Nat) (ha : a < 256) (hb : b < 256) : bits .xor .u8 (a : Int) (b : Int) = ((a ^^^ b : Nat) : Int) := by
  show IntKind.u8.wrap (((BitVec.ofInt 8 (a : Int) ^^^ BitVec.ofInt 8 (b : Int)).toNat : Nat) : Int) = _
  rw [BitVec.toNat_xor, bits8 a ha, bits8 b hb]
  exact wrap8 _ (Nat.xor_lt_two_pow (n := 8) ha hb)
theorem u8_and1 (a : Nat) (ha : a < 256) : bits .and .u8 (a : Int) 1 = ((a % 2 : Nat) : Int) := by
  show IntKind.u8.wrap (((BitVec.ofInt 8 (a : Int) &&& BitVec.ofInt 8 ((1 : Nat) : Int)).toNat : Nat) : Int) = _
  rw [BitVec.toNat_and, bits8 a ha, bits8 1 (by omega), Nat.and_one_is_mod]
  exact wrap8 _ (by omega)
theorem shr_nat (a i : Nat) : ((a : Nat) : Int).fdiv (2 ^ i) = ((a / 2 ^ i : Nat) : Int) := by
  rw [Int.fdiv_eq_ediv_of_nonneg _ (by exact Int.pow_nonneg (by omega))]
  rw [Int.natCast_ediv, Int.natCast_pow]
  rfl
theorem bit_eq (a i : Nat) : (((a / 2 ^ i % 2 : Nat) : Int) == 1) = a.testBit i := by
  rw [Nat.testBit_eq_decide_div_mod_eq]
  have h2 := Nat.mod_two_eq_zero_or_one (a / 2 ^ i)
  rcases h2 with h | h <;> rw [h] <;> rfl
/-- A text that is cut at a byte, its parts given. -/
theorem Cut_all (c : UInt8) (ws : List (List UInt8)) (h0 : 1 ≤ ws.length) (h : ∀ x ∈ ws, c ∉ x) (W : World) (m : Int) (hm : W.cell? ⟨0, 0, none⟩ = some (.int .i64 m)) (hl : (Lib.join ws [c]).length ≤ 1000000000) :
    Calls Tryd.prog 29 #[.string ⟨(Lib.join ws [c]).toArray⟩, .string ⟨#[c]⟩] W fun e W' => e = .returned (.slice (some ⟨W.heap.size, 0, none⟩) ws.length ws.length) ∧ W' = W.alloc (.cells ((bas ws).map Value.string).toArray 9) := by
  obtain ⟨w, r, rfl⟩ : ∃ w r, ws = w :: r := by
    cases ws with
    | nil => exact absurd h0 (by simp)
    | cons w r => exact ⟨w, r, rfl⟩
  exact Cut_c c w r h W m hm hl
theorem bas_get (ws : List (List UInt8)) (i : Nat) (b : List UInt8) (h : ws[i]? = some b) : ((bas ws).map Value.string).toArray[i]? = some (.string ⟨b.toArray⟩) := by
  rw [List.getElem?_toArray, List.getElem?_map, bas, List.getElem?_map, h]
  rfl
theorem line_c (ws : List (List UInt8)) (hno : ∀ x ∈ ws, (10 : UInt8) ∉ x) (hw : ws.length ≤ 1000) (i : Nat) (b : List UInt8) (hb : ws[i]? = some b) (hl : (Lib.join ws [10]).length ≤ 1000000000) (W : World) (m : Int) (hm : W.cell? ⟨0, 0, none⟩ = some (.int .i64 m)) :
    Calls Tryd.prog 30 #[.string ⟨(Lib.join ws [10]).toArray⟩, .int .i64 ((i + 1 : Nat) : Int)] W fun e W' => e = .returned (.string ⟨b.toArray⟩) ∧ Below W.heap.size W W' := by
  have hi := (List.getElem?_eq_some_iff.1 hb).1
  have HC := hid (Cut_all 10 ws (by omega) hno W m hm hl)
  have hal : Below W.heap.size W (W.alloc (.cells ((bas ws).map Value.string).toArray 9)) := (Below.refl _ _).alloc (Nat.le_refl _) _
  have hcl : (W.alloc (.cells ((bas ws).map Value.string).toArray 9)).cell? ⟨W.heap.size, i, none⟩ = some (.string ⟨b.toArray⟩) := by
    rw [cell_of_row _ _ i _ _ _ (heap_alloc_new W _), bas_get ws i b hb]
  have h1 : ¬ (((i + 1 : Nat) : Int) < 1) := by omega
  have h2 : ¬ (((ws.length : Nat) : Int) < ((i + 1 : Nat) : Int)) := by omega
  have hw1 : IntKind.i64.wrap (((i + 1 : Nat) : Int) - 1) = ((i : Nat) : Int) := (IntWalk.i64_in _ (by omega)).trans (by omega)
  have hi0 : (0 : Int) ≤ ((i : Nat) : Int) := by omega
  have hi1 : ((i : Nat) : Int) < ((ws.length : Nat) : Int) := by omega
  have h1d : decide (((i + 1 : Nat) : Int) < 1) = false := decide_eq_false h1
  have h2n : decide (ws.length < i + 1) = false := decide_eq_false (by omega)
  have h2d : decide (((ws.length : Nat) : Int) < ((i + 1 : Nat) : Int)) = false := decide_eq_false h2
  generalize W.alloc (.cells ((bas ws).map Value.string).toArray 9) = W1 at HC hal hcl
  obtain ⟨n, hn⟩ : ∃ n, ws.length = n := ⟨_, rfl⟩
  obtain ⟨j, hj⟩ : ∃ j, i + 1 = j := ⟨_, rfl⟩
  obtain ⟨tx, htx⟩ : ∃ t : ByteArray, ⟨(Lib.join ws [10]).toArray⟩ = t := ⟨_, rfl⟩
  obtain ⟨x, hx⟩ : ∃ t : ByteArray, ⟨b.toArray⟩ = t := ⟨_, rfl⟩
  rw [hn] at HC h2 hi1 h2d h2n
  rw [hj] at h1 h2 h1d h2d h2n hw1 ⊢
  rw [htx] at HC ⊢
  rw [hx] at hcl ⊢
  clear hn hj htx hx hb hno hw hl hi hm
  go_enter Tryd.func30, Tryd.ntmps30
  go_wp2_with (go_at_call 29; refine HC.out.mono ?_; rintro e w1 ⟨rfl, rfl⟩)
  go_ret
  exact ⟨rfl, hal⟩
end Go.Proofs.YtbcileppebpamaaDoor
