/- Walks of the reference: Follows, Derive, Shield, Mothers. -/
import Derived.Test.YtphnibllfpkkkaaDoorR2
import Derived.Deep.RegionHeld3
namespace Go.Proofs.YtphnibllfpkkkaaDoor
open Go Go.RowKit
set_option maxRecDepth 100000

set_option maxHeartbeats 800000 in
theorem rFollows_hi (F : Nat → Nat) (hF : ∀ i, i < 16 → F i < 16) (k : Nat) (hp : 8 ≤ k) (hp' : k < 16) (w : World) :
    Calls Tryd.prog 52 #[.agg (irow 16 (cst F)), .int .i64 (k : Nat)] w fun e w' => e = .returned (.int .i64 (fol F k : Nat)) ∧ Below w.heap.size w w' := by
  have c1 := pa_lt k
  have c2 := pb_lt k
  have f1 := hF _ c1
  have f2 := hF _ c2
  have hfol := hid (show fol F k = F (pa k) ^^^ F (pb k) by unfold fol; rw [if_pos hp])
  have h8 : 8 ≤ (k : Int) := by omega
  have hc1 := cell_irow (heap_alloc_new w (.cells (irow 16 (cst F)) 24)) (pa k) c1
  have hc2 := cell_irow (heap_alloc_new w (.cells (irow 16 (cst F)) 24)) (pb k) c2
  have hb0 : Below w.heap.size w (w.alloc (.cells (irow 16 (cst F)) 24)) := (Below.refl _ _).alloc (Nat.le_refl _) _
  have hpar := hid (rParents k hp hp')
  clear hF
  go_enter Tryd.func52, Tryd.ntmps52
  go_wp2_with (go_at_call 54; refine (hpar.out _).mono ?_; rintro e w' ⟨rfl, rfl⟩)
  generalize hW : w.alloc (.cells (irow 16 (cst F)) 24) = w1 at *
  have hcall := hid (fun W => rSum (F (pa k)) (F (pb k)) f1 f2 W)
  go_region_with (go_at_call 36; refine (hcall.out _).mono ?_; rintro e w2 ⟨rfl, hb2⟩)
  all_goals
    go_wp2
    go_ret
    refine ⟨by rw [hfol.out]; rfl, ?_⟩
    exact hb0.drew.trans (hb2.mono hb0.size)

set_option maxHeartbeats 800000 in
theorem rFollows_lo (F : Nat → Nat) (hF : ∀ i, i < 16 → F i < 16) (k : Nat) (hp : 4 ≤ k) (hp' : k < 8) (w : World) :
    Calls Tryd.prog 52 #[.agg (irow 16 (cst F)), .int .i64 (k : Nat)] w fun e w' => e = .returned (.int .i64 (fol F k : Nat)) ∧ Below w.heap.size w w' := by
  have hn : ¬ (8 : Int) ≤ k := by omega
  obtain ⟨s, rfl⟩ : ∃ s, k = s + 4 := ⟨k - 4, by omega⟩
  have hfol := hid (show fol F (s + 4) = ofT (fun i => ln (F i) s) 4 by unfold fol; rw [if_neg (by omega), ofT_dg]; rfl)
  have h0 := heap_alloc2_old w (.cells (irow 16 (cst F)) 24) (.cells (irow 4 (fun _ => 0)) 54)
  have h1 := heap_alloc2_new w (.cells (irow 16 (cst F)) 24) (.cells (irow 4 (fun _ => 0)) 54)
  have hb0 : Below w.heap.size w ((w.alloc (.cells (irow 16 (cst F)) 24)).alloc (.cells (irow 4 (fun _ => 0)) 54)) := ((Below.refl _ _).alloc (Nat.le_refl _) _).alloc (by simp) _
  have HF := hid hF
  clear hF
  go_enter Tryd.func52, Tryd.ntmps52
  go_wp2_with fail
  rw [zeros4]
  generalize hW : ((w.alloc (.cells (irow 16 (cst F)) 24)).alloc (.cells (irow 4 (fun _ => 0)) 54)) = w1 at *
  clear hW
  go_loopw [8] (fun i wr => ∃ n : Nat, n ≤ 4 ∧ i = .int .i64 n ∧ wr.heap[w.heap.size + 1]? = some (.cells (irow 4 (cst (fun j => if j < n then ln (F j) s else 0))) 54 (0, 0)) ∧ wr.heap[w.heap.size]? = some (.cells (irow 16 (cst F)) 24 (0, 0)) ∧ Below w.heap.size w wr) (fun i _ => 4 - (intOf i).toNat)
  case atStart =>
    refine ⟨0, by omega, rfl, ?_, h0, hb0⟩
    rw [h1, show irow 4 (fun _ => 0) = irow 4 (cst (fun j => if j < 0 then ln (F j) s else 0)) from irow_congr fun i hi => by simp only [cst]; rw [if_neg (by omega)]; rfl]
  case round =>
    clear h0 h1 hb0
    obtain ⟨n, hn4, rfl, hg, hg0, hb⟩ := hrel
    by_cases hlt : n < 4
    · have hlt' : (n : Int) < 4 := by omega
      have hc := cell_irow hg n hlt
      have hf := frozen_of_row _ _ n _ _ hg
      have hc0 := cell_irow hg0 n (by omega)
      have hFn := HF.out n (by omega)
      have hcall := hid (fun W => rLine (F n) s hFn (by omega) W)
      go_wp2_with (go_at_call 18; refine (hcall.out _).mono ?_; rintro e w' ⟨rfl, rfl⟩)
      go_roundw
      case rel =>
        refine ⟨n + 1, by omega, by go_num, ?_, by rw [heap_setCell_other _ _ _ _ (by simp)]; exact hg0, hb.setCell (by simp) _⟩
        rw [set_irow hg n, upd_cst, irow_congr (S := cst (upN _ _ _)) (T := cst (fun j => if j < n + 1 then ln (F j) s else 0)) fun i hi => ?_]
        simp only [cst, upN]
        congr 1
        by_cases e : i = n
        · subst e; rw [if_pos rfl, if_pos (by omega)]
        · rw [if_neg e]
          by_cases h : i < n
          · rw [if_pos h, if_pos (by omega)]
          · rw [if_neg h, if_neg (by omega)]
      case measure => simp [intOf]; omega
    · have hge : ¬ (n : Int) < 4 := by omega
      obtain rfl : n = 4 := by omega
      rw [irow_congr (S := cst (fun j => if j < 4 then ln (F j) s else 0)) (T := cst (fun j => ln (F j) s)) fun i hi => by simp only [cst]; rw [if_pos hi]] at hg
      have hcall := hid (rOf (fun j => ln (F j) s) (fun i _ => ln_bd _ _) wr)
      go_wp2_with (first | (refine ldrow arrFour _ rfl rfl _ rfl _ _ hg ?_) | (go_at_call 35; refine hcall.out.mono ?_; rintro e w2 ⟨rfl, hb2⟩))
      go_ret
      exact ⟨by rw [hfol.out]; rfl, hb.trans (hb2.mono hb.size)⟩

theorem rFollows (F : Nat → Nat) (hF : ∀ i, i < 16 → F i < 16) (k : Nat) (hp : 4 ≤ k) (hp' : k < 16) (w : World) :
    Calls Tryd.prog 52 #[.agg (irow 16 (cst F)), .int .i64 (k : Nat)] w fun e w' => e = .returned (.int .i64 (fol F k : Nat)) ∧ Below w.heap.size w w' := by
  by_cases h : 8 ≤ k
  · exact rFollows_hi F hF k h hp' w
  · exact rFollows_lo F hF k hp (by omega) w
end Go.Proofs.YtphnibllfpkkkaaDoor
