/- Walks: follows, derive, Derive. -/
import Derived.Test.YtphnibllfpkkkaaDoorW2
import Derived.Test.YtphnibllfpkkkaaDoorPlain
namespace Go.Proofs.YtphnibllfpkkkaaDoor
open Go Go.RowKit
set_option maxRecDepth 100000

set_option maxHeartbeats 400000 in
theorem follows_hi (F : Nat → Nat) (hF : ∀ i, i < 16 → F i < 16) (k : Nat) (hp : 8 ≤ k) (hp' : k < 16) (w : World) (L : Laid w) :
    Calls Tryd.prog 77 #[.agg (irow 16 (cst F)), .int .i64 (k : Nat)] w fun e w' => e = .returned (.int .i64 (fol F k : Nat)) ∧ Below w.heap.size w w' := by
  have h1 := L.par (k*2) (by omega)
  have h2 := L.par (k*2+1) (by omega)
  have hs0 := L.size.1
  have c1 : (par (k*2)).toNat < 16 := pa_lt k
  have c2 : (par (k*2+1)).toNat < 16 := pb_lt k
  have hx := hid (i64_xor (F (pa k)) (F (pb k)) (by have := hF _ c1; unfold pa; omega) (by have := hF _ c2; unfold pb; omega))
  have hfol := hid (show fol F k = F (pa k) ^^^ F (pb k) by unfold fol; rw [if_pos hp])
  obtain ⟨b1, b1'⟩ := par_bd (k*2)
  obtain ⟨b2, b2'⟩ := par_bd (k*2+1)
  clear L hF
  go_enter Tryd.func77, Tryd.ntmps77
  go_wp2_with fail
  go_quiet (fail)
  go_wp2_with fail
  go_ret
  exact ⟨by rw [hfol.out, ← hx.out]; rfl, below_drewN (((Below.refl _ _).alloc (Nat.le_refl _) _).alloc (by simp) _) _⟩

set_option maxHeartbeats 400000 in
theorem follows_lo (F : Nat → Nat) (hF : ∀ i, i < 16 → F i < 16) (k : Nat) (hp : 4 ≤ k) (hp' : k < 8) (w : World) :
    Calls Tryd.prog 77 #[.agg (irow 16 (cst F)), .int .i64 (k : Nat)] w fun e w' => e = .returned (.int .i64 (fol F k : Nat)) ∧ Below w.heap.size w w' := by
  have hn : ¬ (8 : Int) ≤ k := by omega
  have hk0 : 0 ≤ (k : Int) - 4 := by omega
  have hfol := hid (show fol F k = dg F (k - 4) 4 by unfold fol; rw [if_neg (by omega)])
  have HF := hid hF
  clear hF
  go_enter Tryd.func77, Tryd.ntmps77
  go_wp2_with fail
  go_loop [4, 21] (fun f i => ∃ n : Nat, n ≤ 4 ∧ i = .int .i64 n ∧ f = .int .i64 (dg F (k - 4) n : Nat)) (fun _ i => 4 - (intOf i).toNat)
  case atStart => exact ⟨0, by omega, rfl, rfl⟩
  case round =>
    obtain ⟨n, hn4, rfl, rfl⟩ := hrel
    by_cases hlt : n < 4
    · have hlt' : (n : Int) < 4 := by omega
      have hn16 : n < 16 := by omega
      have hFn := HF.out n (by omega)
      have hst := hid (dg_step F (k - 4) n hFn hlt)
      generalize hdd : dg F (k - 4) n = d at hst
      go_wp2_with fail
      go_round
      case rel => exact ⟨n + 1, by omega, by go_num, by rw [hst.out]⟩
      case measure => simp [intOf]; omega
    · have hge : ¬ (n : Int) < 4 := by omega
      obtain rfl : n = 4 := by omega
      go_wp2_with fail
      go_ret
      exact ⟨by rw [hfol.out]; rfl, (Below.refl _ _).alloc (Nat.le_refl _) _⟩

theorem follows_c (F : Nat → Nat) (hF : ∀ i, i < 16 → F i < 16) (k : Nat) (hp : 4 ≤ k) (hp' : k < 16) (w : World) (L : Laid w) :
    Calls Tryd.prog 77 #[.agg (irow 16 (cst F)), .int .i64 (k : Nat)] w fun e w' => e = .returned (.int .i64 (fol F k : Nat)) ∧ Below w.heap.size w w' := by
  by_cases h : 8 ≤ k
  · exact follows_hi F hF k h hp' w L
  · exact follows_lo F hF k hp (by omega) w

theorem zcst : (fun _ => 0 : Nat → Int) = cst (fun _ => 0) := rfl

set_option maxHeartbeats 1000000 in
theorem derive_c (M : Nat → Nat) (hM : ∀ i, i < 4 → M i < 16) (w : World) (L : Laid w) :
    Calls Tryd.prog 51 #[.agg (irow 4 (cst M))] w fun e w' => e = .returned (.agg (irow 16 (cst (der M)))) ∧ Below w.heap.size w w' := by
  have hcp := copy_irow (P := Tryd.prog) ((w.alloc (.cells (irow 4 (cst M)) 37)).alloc (.cells (irow 16 (fun _ => 0)) 24)).drew 97 97 3 22 (w.heap.size + 1) w.heap.size 16 4 16 4 _ _ 24 37 (by kernel_rfl) (by kernel_rfl) (heap_alloc2_new w _ _) (heap_alloc2_old w _ _) (by omega)
  have hg0 := setRow_heap ((w.alloc (.cells (irow 4 (cst M)) 37)).alloc (.cells (irow 16 (fun _ => 0)) 24)).drew (w.heap.size + 1) _ (irow 16 (over 4 (cst M) (fun _ => 0))) 24 (0, 0) (heap_alloc2_new w _ _)
  have hb0 : Below w.heap.size w (((w.alloc (.cells (irow 4 (cst M)) 37)).alloc (.cells (irow 16 (fun _ => 0)) 24)).drew.setRow (w.heap.size + 1) (irow 16 (over 4 (cst M) (fun _ => 0)))) :=
    below_setRow (((Below.refl _ _).alloc (Nat.le_refl _) _).alloc (by simp) _).drew (by omega) _
  rw [← zeros16] at hcp
  rw [zcst, over_cst] at hg0 hb0
  rw [zcst, over_cst] at hcp
  have HU := hid (up_lt M hM)
  clear hM
  go_enter Tryd.func51, Tryd.ntmps51
  go_wp2_with fail
  go_region
  clear hcp
  rw [← zcst, zeros16] at *
  generalize hW : (((w.alloc (.cells (irow 4 (cst M)) 37)).alloc (.cells (irow 16 (fun _ => 0)) 24)).drew.setRow (w.heap.size + 1) (irow 16 (cst (overN 4 M (fun _ => 0))))) = w1 at *
  clear hW
  have HL := hid L
  clear L
  go_wp2_with fail
  go_loopw [3] (fun i wr => ∃ n : Nat, n ≤ 12 ∧ i = .int .i64 ((n + 4 : Nat) : Int) ∧ wr.heap[w.heap.size + 1]? = some (.cells (irow 16 (cst (up M n))) 24 (0, 0)) ∧ Below w.heap.size w wr) (fun i _ => 16 - (intOf i).toNat)
  case atStart => exact ⟨0, by omega, rfl, hg0, hb0⟩
  case round =>
    clear hg0 hb0
    obtain ⟨n, hn, rfl, hg, hb⟩ := hrel
    by_cases hlt : n < 12
    · have hlt' : ((n + 4 : Nat) : Int) < 16 := by omega
      have hn16 : n + 4 < 16 := by omega
      have hlt2 := heap_lt hg
      have hL : Laid wr := HL.out.below hb
      have hcall := hid (fun w (L : Laid w) => follows_c (up M n) (HU.out n) (n + 4) (by omega) (by omega) w L)
      go_wp2_with (first | (refine ldrow arrShield _ rfl rfl _ rfl _ _ hg ?_) | (go_at_call 77; refine (hcall.out _ hL).mono ?_; rintro e w2 ⟨rfl, hb2⟩; have hg2 := heap_below hb2 hg hlt2; have hc2 := cell_irow hg2 (n + 4) hn16; have hf2 := frozen_of_row _ _ (n + 4) _ _ hg2))
      go_roundw
      case rel => exact ⟨n + 1, by omega, by go_num, by rw [set_irow hg2, upd_cst]; rfl, (hb.trans (hb2.mono (by omega))).setCell (by simp) _⟩
      case measure => simp [intOf]; omega
    · have hge : ¬ ((n + 4 : Nat) : Int) < 16 := by omega
      obtain rfl : n = 12 := by omega
      go_wp2_with (first | (refine ldrow arrShield _ rfl rfl _ rfl _ _ hg ?_) | (refine strow arrShield _ _ rfl rfl _ _ rfl rfl _ _ hg ?_))
      exact retrow arrShield Tryd.results51 (w.heap.size + 1) _ _ rfl (setRow_heap _ _ _ _ _ _ hg) rfl ⟨rfl, below_setRow hb (by omega) _⟩

end Go.Proofs.YtphnibllfpkkkaaDoor
