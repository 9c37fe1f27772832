/- Walks: Derive, number, Number, mothers, Mothers. -/
import Derived.Test.YtphnibllfpkkkaaDoorW3
namespace Go.Proofs.YtphnibllfpkkkaaDoor
open Go Go.RowKit
set_option maxRecDepth 100000

set_option maxHeartbeats 200000 in
theorem Derive_yes (M : Nat → Nat) (hM : ∀ i, i < 4 → M i < 16) (w : World) (L : Laid w) :
    Calls Tryd.prog 23 #[.agg (irow 4 (cst M))] w fun e w' => e = .returned (.tuple #[.agg (irow 16 (cst (der M))), .int .i64 0]) ∧ Below w.heap.size w w' := by
  have h0 := heap_alloc2_old w (.cells (irow 4 (cst M)) 37) (.cells (irow 16 (fun _ => 0)) 24)
  have h1 := heap_alloc2_new w (.cells (irow 4 (cst M)) 37) (.cells (irow 16 (fun _ => 0)) 24)
  have hb : Below w.heap.size w ((w.alloc (.cells (irow 4 (cst M)) 37)).alloc (.cells (irow 16 (fun _ => 0)) 24)) := ((Below.refl _ _).alloc (Nat.le_refl _) _).alloc (by simp) _
  have HV := hid (valid_yes (cst M) w.heap.size 0 4 4 _ (by omega) (fun i hi => by rw [Nat.zero_add]; exact cell_irow h0 i hi) (fun i hi => ⟨by simp, by have := hM i hi; simp; omega⟩))
  have HD := hid (derive_c M hM _ (L.below hb))
  rw [← zeros16] at h0 h1 hb HV HD
  clear L hM
  go_enter Tryd.func23, Tryd.ntmps23
  go_wp2_with (first | (go_at_call 50; refine HV.out.mono ?_; rintro e w' ⟨rfl, rfl⟩) | (refine ldrow arrMothers _ rfl rfl _ rfl _ _ h0 ?_) | (go_at_call 51; refine HD.out.mono ?_; rintro e w2 ⟨rfl, hb2⟩; have h2 := heap_below hb2 h1 (by simp); rw [zeros16] at h2; clear h1) | (refine strow arrShield _ _ rfl rfl _ _ rfl rfl _ _ h2 ?_))
  exact retrow2 arrShield Tryd.results23 (w.heap.size + 1) _ _ _ rfl rfl (setRow_heap _ _ _ _ _ _ h2) rfl ⟨rfl, below_setRow (hb.trans (hb2.mono (by simp; omega))) (by omega) _⟩

theorem validM_no (S : Nat → Int) (hS : ¬ ∀ i, i < 4 → Fig (S i)) (g c : Nat) (w : World) (t : TypeId) (hg : w.heap[g]? = some (.cells (irow 4 S) t (0, 0))) :
    Calls Tryd.prog 50 #[.slice (some ⟨g, 0, none⟩) 4 c] w fun e w' => e = .returned (.bool false) ∧ w = w' :=
  valid_no S g 0 4 c w (by omega) (fun i hi => by rw [Nat.zero_add]; exact cell_irow hg i hi) hS
theorem validM_yes (S : Nat → Int) (hS : ∀ i, i < 4 → Fig (S i)) (g c : Nat) (w : World) (t : TypeId) (hg : w.heap[g]? = some (.cells (irow 4 S) t (0, 0))) :
    Calls Tryd.prog 50 #[.slice (some ⟨g, 0, none⟩) 4 c] w fun e w' => e = .returned (.bool true) ∧ w = w' :=
  valid_yes S g 0 4 c w (by omega) (fun i hi => by rw [Nat.zero_add]; exact cell_irow hg i hi) hS
theorem validS_no (S : Nat → Int) (hS : ¬ ∀ i, i < 16 → Fig (S i)) (g c : Nat) (w : World) (t : TypeId) (hg : w.heap[g]? = some (.cells (irow 16 S) t (0, 0))) :
    Calls Tryd.prog 50 #[.slice (some ⟨g, 0, none⟩) 16 c] w fun e w' => e = .returned (.bool false) ∧ w = w' :=
  valid_no S g 0 16 c w (by omega) (fun i hi => by rw [Nat.zero_add]; exact cell_irow hg i hi) hS
theorem validS_yes (S : Nat → Int) (hS : ∀ i, i < 16 → Fig (S i)) (g c : Nat) (w : World) (t : TypeId) (hg : w.heap[g]? = some (.cells (irow 16 S) t (0, 0))) :
    Calls Tryd.prog 50 #[.slice (some ⟨g, 0, none⟩) 16 c] w fun e w' => e = .returned (.bool true) ∧ w = w' :=
  valid_yes S g 0 16 c w (by omega) (fun i hi => by rw [Nat.zero_add]; exact cell_irow hg i hi) hS

set_option maxHeartbeats 400000 in
theorem Derive_no (S : Nat → Int) (hS : ¬ ∀ i, i < 4 → Fig (S i)) (w : World) :
    Calls Tryd.prog 23 #[.agg (irow 4 S)] w fun e w' => e = .returned (.tuple #[.agg (irow 16 (fun _ => 0)), .int .i64 2]) ∧ Below w.heap.size w w' := by
  have h0 := heap_alloc2_old w (.cells (irow 4 S) 37) (.cells (irow 16 (fun _ => 0)) 24)
  have h1 := heap_alloc2_new w (.cells (irow 4 S) 37) (.cells (irow 16 (fun _ => 0)) 24)
  have hb : Below w.heap.size w ((w.alloc (.cells (irow 4 S) 37)).alloc (.cells (irow 16 (fun _ => 0)) 24)) := ((Below.refl _ _).alloc (Nat.le_refl _) _).alloc (by simp) _
  have HV := hid (validM_no S hS w.heap.size 4 _ _ h0)
  clear hS
  generalize hw1 : ((w.alloc (.cells (irow 4 S) 37)).alloc (.cells (irow 16 (fun _ => 0)) 24)) = w1 at *
  have Hw := hid hw1
  clear hw1
  go_enter Tryd.func23, Tryd.ntmps23
  go_wp2_with (first | (go_at_call 50; rw [zeros16, Hw.out]; refine HV.out.mono ?_; rintro e w' ⟨rfl, rfl⟩) | (refine strow arrShield _ _ rfl rfl _ (fun _ => 0) rfl rfl _ _ h1 ?_))
  exact retrow2 arrShield Tryd.results23 (w.heap.size + 1) _ _ _ rfl rfl (setRow_heap _ _ _ _ _ _ h1) rfl ⟨rfl, below_setRow hb (by omega) _⟩

set_option maxHeartbeats 400000 in
theorem number_c (M : Nat → Nat) (hM : ∀ i, i < 4 → M i < 16) (w : World) :
    Calls Tryd.prog 55 #[.agg (irow 4 (cst M))] w fun e w' => e = .returned (.int .i64 (num M 4 : Nat)) ∧ Below w.heap.size w w' := by
  have h0 := heap_alloc_new w (.cells (irow 4 (cst M)) 37)
  have HM := hid hM
  clear hM
  go_enter Tryd.func55, Tryd.ntmps55
  go_wp2_with (refine ldrow arrMothers _ rfl rfl _ rfl _ _ h0 ?_)
  go_loop [2, 6] (fun n i => ∃ k : Nat, k ≤ 4 ∧ i = .int .i64 k ∧ n = .int .i64 (num M k : Nat)) (fun _ i => 4 - (intOf i).toNat)
  case atStart => exact ⟨0, by omega, rfl, rfl⟩
  case round =>
    clear h0
    obtain ⟨k, hk, rfl, rfl⟩ := hrel
    by_cases hlt : k < 4
    · have hlt' : (k : Int) < 4 := by omega
      have hm := HM.out k hlt
      have hnl := num_lt M HM.out k (by omega)
      have hp : 16 ^ k ≤ 4096 := by
        have : k = 0 ∨ k = 1 ∨ k = 2 ∨ k = 3 := by omega
        rcases this with rfl | rfl | rfl | rfl <;> decide
      have hst := hid (num_step M k (by omega) hm)
      clear hnl hp
      have hix := idxMothers (cst M) k hlt
      generalize hdd : num M k = d at hst
      go_wp2_with fail
      go_round
      case rel => exact ⟨k + 1, by omega, by go_num, by rw [hst.out]⟩
      case measure => simp [intOf]; omega
    · have hge : ¬ (k : Int) < 4 := by omega
      obtain rfl : k = 4 := by omega
      go_wp2_with fail
      go_ret
      exact ⟨rfl, (Below.refl _ _).alloc (Nat.le_refl _) _⟩

set_option maxHeartbeats 400000 in
theorem Number_yes (M : Nat → Nat) (hM : ∀ i, i < 4 → M i < 16) (w : World) :
    Calls Tryd.prog 22 #[.agg (irow 4 (cst M))] w fun e w' => e = .returned (.tuple #[.int .i64 (num M 4 : Nat), .int .i64 0]) ∧ Below w.heap.size w w' := by
  have h0 := heap_alloc_new w (.cells (irow 4 (cst M)) 37)
  have HV := hid (validM_yes (cst M) (fun i hi => ⟨by simp, by have := hM i hi; simp; omega⟩) w.heap.size 4 _ _ h0)
  have HN := hid (number_c M hM (w.alloc (.cells (irow 4 (cst M)) 37)))
  have hb : Below w.heap.size w (w.alloc (.cells (irow 4 (cst M)) 37)) := (Below.refl _ _).alloc (Nat.le_refl _) _
  clear hM
  go_enter Tryd.func22, Tryd.ntmps22
  go_wp2_with (first | (go_at_call 50; refine HV.out.mono ?_; rintro e w' ⟨rfl, rfl⟩) | (refine ldrow arrMothers _ rfl rfl _ rfl _ _ h0 ?_) | (go_at_call 55; refine HN.out.mono ?_; rintro e w2 ⟨rfl, hb2⟩))
  go_ret2
  exact ⟨rfl, hb.trans (hb2.mono (by simp))⟩

set_option maxHeartbeats 400000 in
theorem Number_no (S : Nat → Int) (hS : ¬ ∀ i, i < 4 → Fig (S i)) (w : World) :
    Calls Tryd.prog 22 #[.agg (irow 4 S)] w fun e w' => e = .returned (.tuple #[.int .i64 0, .int .i64 2]) ∧ Below w.heap.size w w' := by
  have h0 := heap_alloc_new w (.cells (irow 4 S) 37)
  have HV := hid (validM_no S hS w.heap.size 4 _ _ h0)
  have hb : Below w.heap.size w (w.alloc (.cells (irow 4 S) 37)) := (Below.refl _ _).alloc (Nat.le_refl _) _
  clear hS
  go_enter Tryd.func22, Tryd.ntmps22
  go_wp2_with (first | (go_at_call 50; refine HV.out.mono ?_; rintro e w' ⟨rfl, rfl⟩))
  go_ret2
  exact ⟨rfl, hb⟩

set_option maxHeartbeats 400000 in
theorem mothers_c (n : Nat) (hn : n < 65536) (w : World) :
    Calls Tryd.prog 56 #[.int .i64 n] w fun e w' => e = .returned (.agg (irow 4 (cst (mths n)))) ∧ Below w.heap.size w w' := by
  have h0 := heap_alloc_new w (.cells (irow 4 (fun _ => 0)) 37)
  have hb0 : Below w.heap.size w (w.alloc (.cells (irow 4 (fun _ => 0)) 37)) := (Below.refl _ _).alloc (Nat.le_refl _) _
  go_enter Tryd.func56, Tryd.ntmps56
  go_wp2_with fail
  rw [zeros4]
  generalize hW : w.alloc (.cells (irow 4 (fun _ => 0)) 37) = w1 at *
  clear hW
  go_loopw [4] (fun i wr => ∃ k : Nat, k ≤ 4 ∧ i = .int .i64 k ∧ wr.heap[w.heap.size]? = some (.cells (irow 4 (cst (mthsTo n k))) 37 (0, 0)) ∧ Below w.heap.size w wr) (fun i _ => 4 - (intOf i).toNat)
  case atStart =>
    refine ⟨0, by omega, rfl, ?_, hb0⟩
    rw [h0, show irow 4 (fun _ => 0) = irow 4 (cst (mthsTo n 0)) from irow_congr fun i hi => by simp only [cst, mthsTo]; rw [if_neg (by omega)]; rfl]
  case round =>
    clear h0 hb0
    obtain ⟨k, hk, rfl, hg, hb⟩ := hrel
    by_cases hlt : k < 4
    · have hlt' : (k : Int) < 4 := by omega
      have hc := cell_irow hg (3 - k) (by omega)
      have hf := frozen_of_row _ _ (3 - k) _ _ hg
      have hst := hid (mths_step n k hn hlt)
      go_wp2_with fail
      go_roundw
      case rel => exact ⟨k + 1, by omega, by go_num, by rw [hst.out, set_irow hg, mthsTo_step n k hlt], hb.setCell (by simp) _⟩
      case measure => simp [intOf]; omega
    · have hge : ¬ (k : Int) < 4 := by omega
      obtain rfl : k = 4 := by omega
      have hg4 : wr.heap[w.heap.size]? = some (.cells (irow 4 (cst (mths n))) 37 (0, 0)) := by
        rw [hg, show irow 4 (cst (mthsTo n 4)) = irow 4 (cst (mths n)) from irow_congr fun i hi => by simp only [cst, mthsTo, mths]; rw [if_pos (by omega)]]
      clear hg
      go_wp2_with (first | (refine ldrow arrMothers _ rfl rfl _ rfl _ _ hg4 ?_) | (refine strow arrMothers _ _ rfl rfl _ _ rfl rfl _ _ hg4 ?_))
      exact retrow arrMothers Tryd.results56 w.heap.size _ _ rfl (setRow_heap _ _ _ _ _ _ hg4) rfl ⟨rfl, below_setRow hb (Nat.le_refl _) _⟩

set_option maxHeartbeats 400000 in
theorem Mothers_yes (n : Nat) (hn : n < 65536) (w : World) :
    Calls Tryd.prog 27 #[.int .i64 n] w fun e w' => e = .returned (.tuple #[.agg (irow 4 (cst (mths n))), .int .i64 0]) ∧ Below w.heap.size w w' := by
  have h0 := heap_alloc_new w (.cells (irow 4 (fun _ => 0)) 37)
  have hb : Below w.heap.size w (w.alloc (.cells (irow 4 (fun _ => 0)) 37)) := (Below.refl _ _).alloc (Nat.le_refl _) _
  have HM := hid (mothers_c n hn (w.alloc (.cells (irow 4 (fun _ => 0)) 37)))
  have a1 : decide (((n : Nat) : Int) < 0) = false := by simp
  have a2 : decide (65536 ≤ ((n : Nat) : Int)) = false := by simp; omega
  generalize hw1 : w.alloc (.cells (irow 4 (fun _ => 0)) 37) = w1 at *
  have Hw := hid hw1
  clear hw1
  go_enter Tryd.func27, Tryd.ntmps27
  go_wp2_with (first | (go_at_call 56; rw [zeros4, Hw.out]; refine HM.out.mono ?_; rintro e w2 ⟨rfl, hb2⟩; have h2 := heap_below hb2 h0 (by rw [← Hw.out]; simp)) | (refine strow arrMothers _ _ rfl rfl _ _ rfl rfl _ _ h2 ?_))
  exact retrow2 arrMothers Tryd.results27 w.heap.size _ _ _ rfl rfl (setRow_heap _ _ _ _ _ _ h2) rfl ⟨rfl, below_setRow (hb.trans (hb2.mono (by rw [← Hw.out]; simp))) (Nat.le_refl _) _⟩

set_option maxHeartbeats 400000 in
theorem Mothers_no (n : Int) (hn : n < 0 ∨ 65535 < n) (w : World) :
    Calls Tryd.prog 27 #[.int .i64 n] w fun e w' => e = .returned (.tuple #[.agg (irow 4 (fun _ => 0)), .int .i64 3]) ∧ Below w.heap.size w w' := by
  have h0 := heap_alloc_new w (.cells (irow 4 (fun _ => 0)) 37)
  have hb : Below w.heap.size w (w.alloc (.cells (irow 4 (fun _ => 0)) 37)) := (Below.refl _ _).alloc (Nat.le_refl _) _
  have hq : ∀ b : Bool, decide (n < 0) = b → (b = false → decide (65536 ≤ n) = true) → Calls Tryd.prog 27 #[.int .i64 n] w fun e w' => e = .returned (.tuple #[.agg (irow 4 (fun _ => 0)), .int .i64 3]) ∧ Below w.heap.size w w' := by
    intro b a1 a2
    cases b with
    | true =>
      clear a2 hn
      go_enter Tryd.func27, Tryd.ntmps27
      go_wp2
      refine bodyPost_ret (v := .tuple #[.agg (irow 4 (fun _ => 0)), .int .i64 3]) (by rw [← zeros4]; simp [results, Tryd.results27, go_sem]) rfl ⟨rfl, ?_⟩
      rw [zeros4]; exact hb
    | false =>
      have a3 := a2 rfl
      clear a2 hn
      go_enter Tryd.func27, Tryd.ntmps27
      go_wp2
      refine bodyPost_ret (v := .tuple #[.agg (irow 4 (fun _ => 0)), .int .i64 3]) (by rw [← zeros4]; simp [results, Tryd.results27, go_sem]) rfl ⟨rfl, ?_⟩
      rw [zeros4]; exact hb
  exact hq _ rfl fun h => by simp at h ⊢; omega
end Go.Proofs.YtphnibllfpkkkaaDoor
