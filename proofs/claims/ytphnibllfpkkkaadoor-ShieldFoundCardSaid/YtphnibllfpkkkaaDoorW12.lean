/- Walks: Cast. -/
import Derived.Test.YtphnibllfpkkkaaDoorW4
import Derived.Test.YtphnibllfpkkkaaDoorSm
import Derived.Test.YtphnibllfpkkkaaDoorPlain
import Derived.RegionTactic
import Derived.StillTailTactics
import Derived.Deep.DeepMust
namespace Go.Proofs.YtphnibllfpkkkaaDoor
open Go Go.RowKit
set_option maxRecDepth 100000

/-- A row of marks. -/
def Row (n : Int) : Prop := 1 ≤ n ∧ n ≤ 1000
instance (f : Int) : Decidable (Row f) := inferInstanceAs (Decidable (_ ∧ _))

theorem cast1_yes (n : Int) (h0 : 1 ≤ n) (h1 : n ≤ 1000) (w : World) : Calls Tryd.prog 63 #[.int .i64 n] w fun e w' => e = .returned (.bool false) ∧ w = w' := by
  have a1 : decide (n < 1) = false := by simp; omega
  have a2 : decide (1000 < n) = false := by simp; omega
  go_enter Tryd.func63, Tryd.ntmps63
  go_wp2
  go_ret
  exact ⟨rfl, rfl⟩
theorem cast1_no (n : Int) (h : ¬ Row n) (w : World) : Calls Tryd.prog 63 #[.int .i64 n] w fun e w' => e = .returned (.bool true) ∧ w = w' := by
  unfold Row at h
  by_cases h0 : n < 1
  · have a1 : decide (n < 1) = true := by simp; omega
    go_enter Tryd.func63, Tryd.ntmps63
    go_wp2
    go_ret
    exact ⟨rfl, rfl⟩
  · have a1 : decide (n < 1) = false := by simp; omega
    have a2 : decide (1000 < n) = true := by simp; omega
    go_enter Tryd.func63, Tryd.ntmps63
    go_wp2
    go_ret
    exact ⟨rfl, rfl⟩

theorem indexRow_yes (S : Nat → Int) (b off n c : Nat) (w : World) (hn : n ≤ 9223372036854775807) (hc : ∀ i, i < n → w.cell? ⟨b, off + i, none⟩ = some (.int .i64 (S i))) (hv : ∀ i, i < n → Row (S i)) :
    Calls Tryd.prog 78 #[.slice (some ⟨b, off, none⟩) n c, .func (.func 63) #[] #[]] w fun e w' => e = .returned (.int .i64 (-1)) ∧ w = w' := by
  have HC := hid hc
  have HV := hid hv
  clear hc hv
  go_enter Tryd.func78, Tryd.ntmps78
  go_wp2
  go_loop [8] (fun i => ∃ k : Nat, k ≤ n ∧ i = .int .i64 k) (fun i => n - (intOf i).toNat)
  case atStart => exact ⟨0, Nat.zero_le _, rfl⟩
  case round =>
    obtain ⟨k, hk, rfl⟩ := hrel
    by_cases hlt : k < n
    · have hcell := HC.out k hlt
      have hf := HV.out k hlt
      unfold Row at hf
      obtain ⟨hf0, hf1⟩ := hf
      go_wp2_with (go_at_call 63; refine (cast1_yes (S k) hf0 hf1 _).mono ?_; rintro e w' ⟨rfl, rfl⟩)
      go_round
      case rel => exact ⟨k + 1, by omega, by go_num⟩
      case measure => simp [intOf]; omega
    · go_wp2
      go_ret
      exact ⟨rfl, rfl⟩
theorem indexRow_no (S : Nat → Int) (j : Nat) (b off n c : Nat) (w : World) (hn : n ≤ 9223372036854775807) (hc : ∀ i, i < n → w.cell? ⟨b, off + i, none⟩ = some (.int .i64 (S i))) (hj : j < n) (hv : ∀ i, i < j → Row (S i)) (hb : ¬ Row (S j)) :
    Calls Tryd.prog 78 #[.slice (some ⟨b, off, none⟩) n c, .func (.func 63) #[] #[]] w fun e w' => e = .returned (.int .i64 j) ∧ w = w' := by
  have HC := hid hc
  have HV := hid hv
  have HB := hid hb
  clear hc hv hb
  go_enter Tryd.func78, Tryd.ntmps78
  go_wp2
  go_loop [8] (fun i => ∃ k : Nat, k ≤ j ∧ i = .int .i64 k) (fun i => n - (intOf i).toNat)
  case atStart => exact ⟨0, Nat.zero_le _, rfl⟩
  case round =>
    obtain ⟨k, hk, rfl⟩ := hrel
    have hcell := HC.out k (by omega)
    have hlt' : (k : Int) < n := by omega
    by_cases hlt : k < j
    · have hf := HV.out k hlt
      unfold Row at hf
      obtain ⟨hf0, hf1⟩ := hf
      go_wp2_with (go_at_call 63; refine (cast1_yes (S k) hf0 hf1 _).mono ?_; rintro e w' ⟨rfl, rfl⟩)
      go_round
      case rel => exact ⟨k + 1, by omega, by go_num⟩
      case measure => simp [intOf]; omega
    · obtain rfl : k = j := by omega
      go_wp2_with (go_at_call 63; refine (cast1_no (S k) HB.out _).mono ?_; rintro e w' ⟨rfl, rfl⟩)
      go_ret
      exact ⟨rfl, rfl⟩
theorem containsRow_yes (S : Nat → Int) (b off n c : Nat) (w : World) (hn : n ≤ 9223372036854775807) (hc : ∀ i, i < n → w.cell? ⟨b, off + i, none⟩ = some (.int .i64 (S i))) (hv : ∀ i, i < n → Row (S i)) :
    Calls Tryd.prog 62 #[.slice (some ⟨b, off, none⟩) n c, .func (.func 63) #[] #[]] w fun e w' => e = .returned (.bool false) ∧ w = w' := by
  have H := hid (indexRow_yes S b off n c w hn hc hv)
  clear hc hv
  go_enter Tryd.func62, Tryd.ntmps62
  go_wp2_with (go_at_call 78; refine H.out.mono ?_; rintro e w' ⟨rfl, rfl⟩)
  go_ret
  exact ⟨rfl, rfl⟩
theorem containsRow_no (S : Nat → Int) (b off n c : Nat) (w : World) (hn : n ≤ 9223372036854775807) (hc : ∀ i, i < n → w.cell? ⟨b, off + i, none⟩ = some (.int .i64 (S i))) (hv : ¬ ∀ i, i < n → Row (S i)) :
    Calls Tryd.prog 62 #[.slice (some ⟨b, off, none⟩) n c, .func (.func 63) #[] #[]] w fun e w' => e = .returned (.bool true) ∧ w = w' := by
  have hex : ∃ j, j < n ∧ ¬ Row (S j) := by
    apply Classical.byContradiction
    intro h
    exact hv fun i hi => Classical.byContradiction fun hb => h ⟨i, hi, hb⟩
  obtain ⟨j, ⟨hj, hb⟩, hl⟩ := exists_least hex
  have H := hid (indexRow_no S j b off n c w hn hc hj (fun i hi => Classical.byContradiction fun hb => absurd (hl i ⟨by omega, hb⟩) (by omega)) hb)
  clear hc hv hex hl hb
  have hj0 : (0 : Int) ≤ j := by omega
  go_enter Tryd.func62, Tryd.ntmps62
  go_wp2_with (go_at_call 78; refine H.out.mono ?_; rintro e w' ⟨rfl, rfl⟩)
  go_ret
  exact ⟨by simp, rfl⟩

/-- The mothers after i rows. -/
def csT (r : Nat → Nat) : Nat → Nat → Nat
  | 0 => fun _ => 0
  | i + 1 => upN (csT r i) (i / 4) (csT r i (i / 4) ||| r i % 2 * 2 ^ (i % 4))
theorem csT_lt (r : Nat → Nat) : ∀ i j, csT r i j < 16
  | 0, _ => by simp [csT]
  | i + 1, j => by
    simp only [csT, upN]
    have h1 := csT_lt r i
    split
    · refine Nat.or_lt_two_pow (n := 4) (h1 _) ?_
      have : i % 4 = 0 ∨ i % 4 = 1 ∨ i % 4 = 2 ∨ i % 4 = 3 := by omega
      rcases this with h | h | h | h <;> rw [h] <;> omega
    · exact h1 _
theorem cs_step (r : Nat → Nat) (i : Nat) : bits .or .i64 ((csT r i (i / 4) : Nat) : Int) (((r i : Nat) : Int) % 2 * 2 ^ (i % 4)) = (((csT r i (i / 4) ||| r i % 2 * 2 ^ (i % 4) : Nat) : Nat) : Int) := by
  have e2 : ((r i : Nat) : Int) % 2 * 2 ^ (i % 4) = ((r i % 2 * 2 ^ (i % 4) : Nat) : Int) := by push_cast; rfl
  have hb : r i % 2 * 2 ^ (i % 4) < 16 := by
    have : i % 4 = 0 ∨ i % 4 = 1 ∨ i % 4 = 2 ∨ i % 4 = 3 := by omega
    rcases this with h | h | h | h <;> rw [h] <;> omega
  have hd := csT_lt r i (i / 4)
  rw [e2, i64_or _ _ (by omega) (by omega)]
theorem csT_of (r : Nat → Nat) (j : Nat) (hj : j < 4) : csT r 16 j = ofT (fun k => 2 - r (4 * j + k) % 2) 4 := by
  have hb : ∀ i, r i % 2 = 0 ∨ r i % 2 = 1 := fun i => by omega
  have : j = 0 ∨ j = 1 ∨ j = 2 ∨ j = 3 := by omega
  rcases this with rfl | rfl | rfl | rfl
  · simp only [csT, upN, ofT, Nat.reduceDiv, Nat.reduceMod, Nat.reduceEqDiff, if_true, if_false, Nat.reduceSub, Nat.zero_add, Nat.mul_zero]
    rcases hb 0 with h0 | h0 <;> rcases hb 1 with h1 | h1 <;> rcases hb 2 with h2 | h2 <;> rcases hb 3 with h3 | h3 <;> simp only [h0, h1, h2, h3] <;> decide
  · simp only [csT, upN, ofT, Nat.reduceDiv, Nat.reduceMod, Nat.reduceEqDiff, if_true, if_false, Nat.reduceMul, Nat.reduceAdd, Nat.reduceSub, Nat.zero_add, Nat.mul_zero]
    rcases hb 4 with h0 | h0 <;> rcases hb 5 with h1 | h1 <;> rcases hb 6 with h2 | h2 <;> rcases hb 7 with h3 | h3 <;> simp only [h0, h1, h2, h3] <;> decide
  · simp only [csT, upN, ofT, Nat.reduceDiv, Nat.reduceMod, Nat.reduceEqDiff, if_true, if_false, Nat.reduceMul, Nat.reduceAdd, Nat.reduceSub, Nat.zero_add, Nat.mul_zero]
    rcases hb 8 with h0 | h0 <;> rcases hb 9 with h1 | h1 <;> rcases hb 10 with h2 | h2 <;> rcases hb 11 with h3 | h3 <;> simp only [h0, h1, h2, h3] <;> decide
  · simp only [csT, upN, ofT, Nat.reduceDiv, Nat.reduceMod, Nat.reduceEqDiff, if_true, if_false, Nat.reduceMul, Nat.reduceAdd, Nat.reduceSub, Nat.zero_add, Nat.mul_zero]
    rcases hb 12 with h0 | h0 <;> rcases hb 13 with h1 | h1 <;> rcases hb 14 with h2 | h2 <;> rcases hb 15 with h3 | h3 <;> simp only [h0, h1, h2, h3] <;> decide

set_option maxHeartbeats 400000 in
theorem cast_long (a : Option Addr) (n c : Nat) (hn : n ≠ 16) (_hm : n ≤ 9223372036854775807) (w : World) :
    Calls Tryd.prog 37 #[.slice a n c] w fun e w' => e = .returned (.tuple #[.agg (irow 4 (fun _ => 0)), .int .i64 5]) ∧ Below w.heap.size w w' := by
  have hq : (((n : Nat) : Int) != 16) = true := by simp; omega
  clear hn
  have h0 := heap_alloc_new w (.cells (irow 4 (fun _ => 0)) 37)
  have hb0 : Below w.heap.size w (w.alloc (.cells (irow 4 (fun _ => 0)) 37)) := (Below.refl _ _).alloc (Nat.le_refl _) _
  go_enter Tryd.func37, Tryd.ntmps37
  go_wp2_with (first | (rw [zeros4]; generalize w.alloc (.cells (irow 4 (fun _ => 0)) 37) = w1 at h0 hb0 ⊢; refine ldrow arrMothers _ rfl rfl _ rfl _ _ h0 ?_) | (refine strow arrMothers _ _ rfl rfl _ _ rfl rfl _ _ h0 ?_))
  exact retrow2 arrMothers Tryd.results37 w.heap.size _ _ _ rfl rfl (setRow_heap _ _ _ _ _ _ h0) rfl ⟨rfl, below_setRow hb0 (Nat.le_refl _) _⟩

set_option maxHeartbeats 400000 in
theorem cast_range (S : Nat → Int) (b off c : Nat) (w : World) (hbz : b < w.heap.size) (hc : ∀ i, i < 16 → w.cell? ⟨b, off + i, none⟩ = some (.int .i64 (S i))) (hv : ¬ ∀ i, i < 16 → Row (S i)) :
    Calls Tryd.prog 37 #[.slice (some ⟨b, off, none⟩) 16 c] w fun e w' => e = .returned (.tuple #[.agg (irow 4 (fun _ => 0)), .int .i64 3]) ∧ Below w.heap.size w w' := by
  have h0 := heap_alloc_new w (.cells (irow 4 (fun _ => 0)) 37)
  have hb0 : Below w.heap.size w (w.alloc (.cells (irow 4 (fun _ => 0)) 37)) := (Below.refl _ _).alloc (Nat.le_refl _) _
  have H := hid (containsRow_no S b off 16 c (w.alloc (.cells (irow 4 (fun _ => 0)) 37)) (by omega) (fun i hi => (hb0.cell (p := ⟨b, off + i, none⟩) hbz).trans (hc i hi)) hv)
  clear hc hv
  go_enter Tryd.func37, Tryd.ntmps37
  go_wp2_with (first | (go_at_call 62; rw [zeros4]; refine H.out.mono ?_; rintro e w' ⟨rfl, rfl⟩; generalize w.alloc (.cells (irow 4 (fun _ => 0)) 37) = w1 at h0 hb0 ⊢) | (refine ldrow arrMothers _ rfl rfl _ rfl _ _ h0 ?_) | (refine strow arrMothers _ _ rfl rfl _ _ rfl rfl _ _ h0 ?_))
  exact retrow2 arrMothers Tryd.results37 w.heap.size _ _ _ rfl rfl (setRow_heap _ _ _ _ _ _ h0) rfl ⟨rfl, below_setRow hb0 (Nat.le_refl _) _⟩

end Go.Proofs.YtphnibllfpkkkaaDoor
