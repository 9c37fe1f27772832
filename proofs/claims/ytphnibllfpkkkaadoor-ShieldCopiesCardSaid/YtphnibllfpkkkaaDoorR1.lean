/- Walks of the reference: Figure, Line, Of, Sum, Parents, Follows, Shield, Mothers. -/
import Derived.Test.YtphnibllfpkkkaaDoorPlain
namespace Go.Proofs.YtphnibllfpkkkaaDoor
open Go Go.RowKit
set_option maxRecDepth 100000

theorem rFigure_yes (f : Int) (h0 : 0 ≤ f) (h1 : f ≤ 15) (w : World) : Calls Tryd.prog 24 #[.int .i64 f] w fun e w' => e = .returned (.bool true) ∧ w = w' := by
  have a1 : decide (0 ≤ f) = true := by simp; omega
  have a2 : decide (f ≤ 15) = true := by simp; omega
  go_enter Tryd.func24, Tryd.ntmps24
  go_wp2
  go_ret
  exact ⟨rfl, rfl⟩
theorem rFigure_no (f : Int) (h : ¬ Fig f) (w : World) : Calls Tryd.prog 24 #[.int .i64 f] w fun e w' => e = .returned (.bool false) ∧ w = w' := by
  unfold Fig at h
  by_cases h0 : 0 ≤ f
  · have a1 : decide (0 ≤ f) = true := by simp; omega
    have a2 : decide (f ≤ 15) = false := by simp; omega
    go_enter Tryd.func24, Tryd.ntmps24
    go_wp2
    go_ret
    exact ⟨rfl, rfl⟩
  · have a1 : decide (0 ≤ f) = false := by simp; omega
    go_enter Tryd.func24, Tryd.ntmps24
    go_wp2
    go_ret
    exact ⟨rfl, rfl⟩

set_option maxHeartbeats 400000 in
theorem rLine (f k : Nat) (hf : f < 16) (hk : k ≤ 1000) (w : World) : Calls Tryd.prog 18 #[.int .i64 f, .int .i64 k] w fun e w' => e = .returned (.int .i64 (ln f k : Nat)) ∧ w = w' := by
  go_enter Tryd.func18, Tryd.ntmps18
  go_wp2_with fail
  go_loop [5, 6] (fun n i => ∃ j : Nat, j ≤ k ∧ i = .int .i64 j ∧ n = .int .i64 (f / 2 ^ j : Nat)) (fun _ i => k - (intOf i).toNat)
  case atStart => exact ⟨0, by omega, rfl, by simp⟩
  case round =>
    obtain ⟨j, hj, rfl, rfl⟩ := hrel
    have hlt0 : f / 2 ^ j < 16 := Nat.lt_of_le_of_lt (Nat.div_le_self _ _) hf
    by_cases hlt : j < k
    · have hlt' : (j : Int) < k := by omega
      have hst := hid (half_pow f j)
      generalize hd : f / 2 ^ j = d at *
      have Hd := hid hd
      clear hd
      go_wp2_with fail
      go_round
      case rel => exact ⟨j + 1, by omega, by go_num, by rw [← hst.out]; simp⟩
      case measure => simp [intOf]; omega
    · have hge : ¬ (j : Int) < k := by omega
      obtain rfl : j = k := by omega
      have hln := hid (show ln f j = 2 - f / 2 ^ j % 2 from rfl)
      generalize hd : f / 2 ^ j = d at *
      clear hd
      go_wp2_with fail
      go_ret
      exact ⟨by rw [hln.out]; congr 2; simp; omega, rfl⟩

set_option maxHeartbeats 400000 in
theorem rOf (m : Nat → Nat) (hm : ∀ i, i < 4 → 1 ≤ m i ∧ m i ≤ 2) (w : World) : Calls Tryd.prog 35 #[.agg (irow 4 (cst m))] w fun e w' => e = .returned (.int .i64 (ofT m 4 : Nat)) ∧ Below w.heap.size w w' := by
  have h0 := heap_alloc_new w (.cells (irow 4 (cst m)) 54)
  have hb0 : Below w.heap.size w (w.alloc (.cells (irow 4 (cst m)) 54)) := (Below.refl _ _).alloc (Nat.le_refl _) _
  have HM := hid hm
  clear hm
  go_enter Tryd.func35, Tryd.ntmps35
  go_wp2_with fail
  generalize hW : w.alloc (.cells (irow 4 (cst m)) 54) = w1 at *
  clear hW
  go_loop [3, 4] (fun n i => ∃ t : Nat, t ≤ 4 ∧ i = .int .i64 (3 - (t : Int)) ∧ n = .int .i64 (ofT m t : Nat)) (fun _ i => (intOf i + 1).toNat)
  case atStart => exact ⟨0, by omega, rfl, rfl⟩
  case round =>
    obtain ⟨t, ht, rfl, rfl⟩ := hrel
    have hot := ofT_lt m HM.out t (by omega)
    have hp : 2 ^ t ≤ 16 := by
      have : t = 0 ∨ t = 1 ∨ t = 2 ∨ t = 3 ∨ t = 4 := by omega
      rcases this with rfl | rfl | rfl | rfl | rfl <;> decide
    have hot' : ofT m t < 16 := by omega
    clear hot hp
    by_cases hlt : t < 4
    · have hc := cell_irow h0 (3 - t) (by omega)
      have hm1 := HM.out (3 - t) (by omega)
      have hst := hid (show ofT m (t + 1) = 2 * ofT m t + 2 - m (3 - t) from rfl)
      generalize hd : ofT m t = d at *
      have Hd := hid hd
      clear hd h0 hb0
      have hge : (0 : Int) ≤ 3 - (t : Int) := by omega
      obtain ⟨hm1, hm2⟩ := hm1
      generalize hmv : m (3 - t) = mv at *
      have e3 : (3 - (t : Int)).toNat = 3 - t := by omega
      go_wp2_with fail
      go_round
      case rel => exact ⟨t + 1, by omega, by congr 1; omega, by rw [hst.out]; congr 1; omega⟩
      case measure => simp [intOf]; omega
    · have hge : ¬ (0 : Int) ≤ 3 - (t : Int) := by omega
      obtain rfl : t = 4 := by omega
      go_wp2_with fail
      go_ret
      exact ⟨rfl, hb0⟩
end Go.Proofs.YtphnibllfpkkkaaDoor
