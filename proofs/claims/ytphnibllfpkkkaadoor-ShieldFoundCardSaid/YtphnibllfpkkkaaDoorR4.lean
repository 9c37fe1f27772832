/- Walks of the reference: Derive, Shield, Mothers. -/
import Derived.Test.YtphnibllfpkkkaaDoorR3
namespace Go.Proofs.YtphnibllfpkkkaaDoor
open Go Go.RowKit
set_option maxRecDepth 100000

theorem build4 (M : Nat → Nat) : (#[.int .i64 ((M 0 : Nat) : Int), .int .i64 ((M 1 : Nat) : Int), .int .i64 ((M 2 : Nat) : Int), .int .i64 ((M 3 : Nat) : Int), .int .i64 0, .int .i64 0, .int .i64 0, .int .i64 0, .int .i64 0, .int .i64 0, .int .i64 0, .int .i64 0, .int .i64 0, .int .i64 0, .int .i64 0, .int .i64 0] : Array Value) = irow 16 (cst (overN 4 M (fun _ => 0))) := rfl

set_option maxHeartbeats 800000 in
theorem rDerive (M : Nat → Nat) (hM : ∀ i, i < 4 → M i < 16) (w : World) :
    Calls Tryd.prog 26 #[.agg (irow 4 (cst M))] w fun e w' => e = .returned (.agg (irow 16 (cst (der M)))) ∧ Below w.heap.size w w' := by
  have HU := hid (up_lt M hM)
  clear hM
  have h2 := Below.heap_alloc (((w.alloc (.cells (irow 4 (cst M)) 37)).alloc (.cells (irow 16 (fun _ => 0)) 24))) (.cells (irow 16 (cst (overN 4 M (fun _ => 0)))) 24) (w.heap.size + 1) (by simp)
  rw [heap_alloc2_new] at h2
  have h3 := heap_alloc_new (((w.alloc (.cells (irow 4 (cst M)) 37)).alloc (.cells (irow 16 (fun _ => 0)) 24))) (.cells (irow 16 (cst (overN 4 M (fun _ => 0)))) 24)
  have hs : ((w.alloc (.cells (irow 4 (cst M)) 37)).alloc (.cells (irow 16 (fun _ => 0)) 24)).heap.size = w.heap.size + 2 := by simp
  rw [hs] at h3
  have hb0 : Below w.heap.size w (((w.alloc (.cells (irow 4 (cst M)) 37)).alloc (.cells (irow 16 (fun _ => 0)) 24)).alloc (.cells (irow 16 (cst (overN 4 M (fun _ => 0)))) 24)) := (((Below.refl _ _).alloc (Nat.le_refl _) _).alloc (by simp) _).alloc (by simp; omega) _
  clear hs
  go_enter Tryd.func26, Tryd.ntmps26
  go_wp2_with fail
  rw [zeros16, build4]
  generalize hW : ((w.alloc (.cells (irow 4 (cst M)) 37)).alloc (.cells (irow 16 (fun _ => 0)) 24)).alloc (.cells (irow 16 (cst (overN 4 M (fun _ => 0)))) 24) = w1 at *
  clear hW
  go_loopw [4] (fun i wr => ∃ n : Nat, n ≤ 12 ∧ i = .int .i64 ((n + 4 : Nat) : Int) ∧ wr.heap[w.heap.size + 2]? = some (.cells (irow 16 (cst (up M n))) 24 (0, 0)) ∧ wr.heap[w.heap.size + 1]? = some (.cells (irow 16 (fun _ => 0)) 24 (0, 0)) ∧ Below w.heap.size w wr) (fun i _ => 16 - (intOf i).toNat)
  case atStart => exact ⟨0, by omega, rfl, h3, h2, hb0⟩
  case round =>
    clear h2 h3 hb0
    obtain ⟨n, hn, rfl, hg, hg1, hb⟩ := hrel
    by_cases hlt : n < 12
    · have hlt' : ((n + 4 : Nat) : Int) < 16 := by omega
      have hn16 : n + 4 < 16 := by omega
      have hlt2 := heap_lt hg
      have hlt1 := heap_lt hg1
      have hcall := hid (fun w => rFollows (up M n) (HU.out n) (n + 4) (by omega) (by omega) w)
      go_wp2_with (first | (refine ldrow arrShield _ rfl rfl _ rfl _ _ hg ?_) | (go_at_call 52; refine (hcall.out _).mono ?_; rintro e w2 ⟨rfl, hb2⟩; have hg2 := heap_below hb2 hg hlt2; have hg3 := heap_below hb2 hg1 hlt1; have hc2 := cell_irow hg2 (n + 4) hn16; have hf2 := frozen_of_row _ _ (n + 4) _ _ hg2))
      go_roundw
      case rel => exact ⟨n + 1, by omega, by go_num, by rw [set_irow hg2, upd_cst]; rfl, by rw [heap_setCell_other _ _ _ _ (by simp)]; exact hg3, (hb.trans (hb2.mono (by omega))).setCell (by simp <;> omega) _⟩
      case measure => simp [intOf]; omega
    · have hge : ¬ ((n + 4 : Nat) : Int) < 16 := by omega
      obtain rfl : n = 12 := by omega
      go_wp2_with (first | (refine ldrow arrShield _ rfl rfl _ rfl _ _ hg ?_) | (refine strow arrShield _ _ rfl rfl _ _ rfl rfl _ _ hg1 ?_))
      exact retrow arrShield Tryd.results26 (w.heap.size + 1) _ _ rfl (setRow_heap _ _ _ _ _ _ hg1) rfl ⟨rfl, below_setRow hb (by omega) _⟩

set_option maxHeartbeats 400000 in
theorem rShield_yes (S : Nat → Int) (hS : ∀ i, i < 16 → Fig (S i)) (w : World) :
    Calls Tryd.prog 16 #[.agg (irow 16 S)] w fun e w' => e = .returned (.bool true) ∧ Below w.heap.size w w' := by
  have h0 := heap_alloc_new w (.cells (irow 16 S) 24)
  have hb0 : Below w.heap.size w (w.alloc (.cells (irow 16 S) 24)) := (Below.refl _ _).alloc (Nat.le_refl _) _
  have HS := hid hS
  clear hS
  go_enter Tryd.func16, Tryd.ntmps16
  go_wp2_with fail
  generalize hW : w.alloc (.cells (irow 16 S) 24) = w1 at *
  clear hW
  go_loop [3] (fun i => ∃ n : Nat, n ≤ 16 ∧ i = .int .i64 n) (fun i => 16 - (intOf i).toNat)
  case atStart => exact ⟨0, by omega, rfl⟩
  case round =>
    obtain ⟨n, hn, rfl⟩ := hrel
    by_cases hlt : n < 16
    · have hlt' : (n : Int) < 16 := by omega
      have hc := cell_irow h0 n hlt
      obtain ⟨f0, f1⟩ := HS.out n hlt
      have hcall := hid (fun W => rFigure_yes (S n) f0 f1 W)
      go_wp2_with (go_at_call 24; refine (hcall.out _).mono ?_; rintro e w' ⟨rfl, rfl⟩)
      go_round
      case rel => exact ⟨n + 1, by omega, by go_num⟩
      case measure => simp [intOf]; omega
    · have hge : ¬ (n : Int) < 16 := by omega
      go_wp2_with fail
      go_ret
      exact ⟨rfl, hb0⟩

set_option maxHeartbeats 400000 in
theorem rShield_no (S : Nat → Int) (hS : ¬ ∀ i, i < 16 → Fig (S i)) (w : World) :
    Calls Tryd.prog 16 #[.agg (irow 16 S)] w fun e w' => e = .returned (.bool false) ∧ Below w.heap.size w w' := by
  have h0 := heap_alloc_new w (.cells (irow 16 S) 24)
  have hb0 : Below w.heap.size w (w.alloc (.cells (irow 16 S) 24)) := (Below.refl _ _).alloc (Nat.le_refl _) _
  have hex : ∃ j, j < 16 ∧ ¬ Fig (S j) := by
    apply Classical.byContradiction
    intro h
    exact hS fun i hi => Classical.byContradiction fun hb => h ⟨i, hi, hb⟩
  obtain ⟨j, ⟨hj, hbad⟩, hl⟩ := exists_least hex
  have HV := hid (show ∀ i, i < j → Fig (S i) from fun i hi => Classical.byContradiction fun hb => absurd (hl i ⟨by omega, hb⟩) (by omega))
  have HB := hid hbad
  clear hS hex hl hbad
  go_enter Tryd.func16, Tryd.ntmps16
  go_wp2_with fail
  generalize hW : w.alloc (.cells (irow 16 S) 24) = w1 at *
  clear hW
  go_loop [3] (fun i => ∃ n : Nat, n ≤ j ∧ i = .int .i64 n) (fun i => 16 - (intOf i).toNat)
  case atStart => exact ⟨0, by omega, rfl⟩
  case round =>
    obtain ⟨n, hn, rfl⟩ := hrel
    have hlt' : (n : Int) < 16 := by omega
    have hc := cell_irow h0 n (by omega)
    by_cases hlt : n < j
    · obtain ⟨f0, f1⟩ := HV.out n hlt
      have hcall := hid (fun W => rFigure_yes (S n) f0 f1 W)
      go_wp2_with (go_at_call 24; refine (hcall.out _).mono ?_; rintro e w' ⟨rfl, rfl⟩)
      go_round
      case rel => exact ⟨n + 1, by omega, by go_num⟩
      case measure => simp [intOf]; omega
    · obtain rfl : n = j := by omega
      have hcall := hid (fun W => rFigure_no (S n) HB.out W)
      go_wp2_with (go_at_call 24; refine (hcall.out _).mono ?_; rintro e w' ⟨rfl, rfl⟩)
      go_ret
      exact ⟨rfl, hb0⟩

theorem lit4 (M : Nat → Nat) : (#[.int .i64 ((M 0 : Nat) : Int), .int .i64 ((M 1 : Nat) : Int), .int .i64 ((M 2 : Nat) : Int), .int .i64 ((M 3 : Nat) : Int)] : Array Value) = irow 4 (cst M) := rfl

set_option maxHeartbeats 400000 in
theorem rMothers (n : Nat) (hn : n < 65536) (w : World) :
    Calls Tryd.prog 25 #[.int .i64 n] w fun e w' => e = .returned (.agg (irow 4 (cst (mths n)))) ∧ Below w.heap.size w w' := by
  have e0 : (n : Int) / 4096 = ((mths n 0 : Nat) : Int) := by simp only [mths, Nat.reduceSub, Nat.reduceMul, Nat.reducePow]; omega
  have e1 : (n : Int) / 256 % 16 = ((mths n 1 : Nat) : Int) := by simp only [mths, Nat.reduceSub, Nat.reduceMul, Nat.reducePow]; omega
  have e2 : (n : Int) / 16 % 16 = ((mths n 2 : Nat) : Int) := by simp only [mths, Nat.reduceSub, Nat.reduceMul, Nat.reducePow]; omega
  have e3 : (n : Int) % 16 = ((mths n 3 : Nat) : Int) := by simp only [mths, Nat.reduceSub, Nat.reduceMul, Nat.reducePow]; omega
  have E := hid (And.intro e0 (And.intro e1 (And.intro e2 e3)))
  clear e0 e1 e2 e3
  go_enter Tryd.func25, Tryd.ntmps25
  go_wp2_with fail
  obtain ⟨e0, e1, e2, e3⟩ := E.out
  refine bodyPost_ret (v := .agg (irow 4 (cst (mths n)))) ?_ rfl ⟨rfl, (Below.refl _ _).alloc (Nat.le_refl _) _⟩
  rw [← lit4, ← e0, ← e1, ← e2, ← e3]
  simp [results, Tryd.results25, go_sem]
end Go.Proofs.YtphnibllfpkkkaaDoor
