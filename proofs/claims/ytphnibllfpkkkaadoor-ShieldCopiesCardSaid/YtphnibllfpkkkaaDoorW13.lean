/- Walk: Cast of sixteen rows. -/
import Derived.Test.YtphnibllfpkkkaaDoorW12
namespace Go.Proofs.YtphnibllfpkkkaaDoor
open Go Go.RowKit
set_option maxRecDepth 100000

set_option maxHeartbeats 1000000 in
theorem cast_yes (r : Nat → Nat) (b off c : Nat) (w : World) (hbz : b < w.heap.size) (hc : ∀ i, i < 16 → w.cell? ⟨b, off + i, none⟩ = some (.int .i64 ((r i : Nat) : Int))) (hv : ∀ i, i < 16 → Row (r i)) :
    Calls Tryd.prog 37 #[.slice (some ⟨b, off, none⟩) 16 c] w fun e w' => e = .returned (.tuple #[.agg (irow 4 (cst (csT r 16))), .int .i64 0]) ∧ Below w.heap.size w w' := by
  have h0 := heap_alloc_new w (.cells (irow 4 (fun _ => 0)) 37)
  have hb0 : Below w.heap.size w (w.alloc (.cells (irow 4 (fun _ => 0)) 37)) := (Below.refl _ _).alloc (Nat.le_refl _) _
  have H := hid (containsRow_yes (fun i => ((r i : Nat) : Int)) b off 16 c (w.alloc (.cells (irow 4 (fun _ => 0)) 37)) (by omega) (fun i hi => (hb0.cell (p := ⟨b, off + i, none⟩) hbz).trans (hc i hi)) hv)
  have HC := hid hc
  have HV := hid hv
  clear hc hv
  go_enter Tryd.func37, Tryd.ntmps37
  go_wp2_with (first | (go_at_call 62; rw [zeros4]; refine H.out.mono ?_; rintro e w' ⟨rfl, rfl⟩))
  generalize w.alloc (.cells (irow 4 (fun _ => 0)) 37) = w1 at h0 hb0 ⊢
  clear H
  go_loopw [17] (fun i wr => ∃ k : Nat, k ≤ 16 ∧ i = .int .i64 k ∧ wr.heap[w.heap.size]? = some (.cells (irow 4 (cst (csT r k))) 37 (0, 0)) ∧ Below w.heap.size w wr) (fun i _ => 16 - (intOf i).toNat)
  case atStart => exact ⟨0, by omega, rfl, h0, hb0⟩
  case round =>
    clear h0 hb0
    obtain ⟨k, hk, rfl, hg, hb⟩ := hrel
    by_cases hlt : k < 16
    · have hlt' : (k : Int) < 16 := by omega
      have hcell := (hb.cell (p := ⟨b, off + k, none⟩) hbz).trans (HC.out k hlt)
      have hr := HV.out k hlt
      unfold Row at hr
      have hstep := cs_step r k
      obtain ⟨q, hq⟩ : ∃ q : Nat, k / 4 = q := ⟨_, rfl⟩
      obtain ⟨m, hm⟩ : ∃ m : Nat, k % 4 = m := ⟨_, rfl⟩
      obtain ⟨d, hd⟩ : ∃ d : Nat, r k % 2 = d := ⟨_, rfl⟩
      rw [hq, hm, show ((r k : Nat) : Int) % 2 = (d : Nat) by omega, hd] at hstep
      have hst := hid hstep
      have hup := hid (show csT r (k + 1) = upN (csT r k) q (csT r k q ||| d * 2 ^ m) by rw [csT, hq, hm, hd])
      have hql : q < 4 := by omega
      have hcm := cell_irow hg q hql
      have hfz := frozen_of_row _ _ q _ _ hg
      have hq' : ((k : Nat) : Int) / 4 = (q : Nat) := by omega
      have hq4 : ((q : Nat) : Int) < 4 := by omega
      have hm' : ((k : Nat) : Int) % 4 = (m : Nat) := by omega
      have hml : m < 4 := by omega
      have Hg := hid hg
      clear hg hstep hq hm
      have hdl : d < 2 := by omega
      have ht2 : ((r k : Nat) : Int).tmod 2 = (d : Nat) := by rw [Int.tmod_eq_emod_of_nonneg (by omega)]; omega
      have ht4 : ((k : Nat) : Int).tmod 4 = (m : Nat) := by rw [Int.tmod_eq_emod_of_nonneg (by omega)]; omega
      have hb16 : 0 ≤ ((d : Nat) : Int) * 2 ^ m ∧ ((d : Nat) : Int) * 2 ^ m < 9223372036854775808 := by
        have : m = 0 ∨ m = 1 ∨ m = 2 ∨ m = 3 := by omega
        rcases this with h | h | h | h <;> rw [h] <;> omega
      have hwq := wrap_nat q (by omega)
      have hws : IntKind.i64.wrap (((d : Nat) : Int) * 2 ^ m) = ((d : Nat) : Int) * 2 ^ m := IntWalk.i64_in _ (by omega)
      have hws' : wrap64 (((d : Nat) : Int) * 2 ^ m) = ((d : Nat) : Int) * 2 ^ m := IntWalk.wrap64_in _ (by omega)
      clear hb16 hd
      go_wp2_with fail
      go_still_tail 11, (by kernel_rfl)
      change wpList _ _ _ _ _ wr.drew
      go_wp2_with fail
      go_roundw
      case rel => exact ⟨k + 1, by omega, by go_num, by rw [hup.out, ← upd_cst, ← hst.out]; exact set_irow (w := wr.drew) Hg.out q _, (below_drewN hb 1).setCell (by simp) _⟩
      case measure => simp [intOf]; omega
    · have hge : ¬ (k : Int) < 16 := by omega
      obtain rfl : k = 16 := by omega
      go_wp2_with (first | (refine ldrow arrMothers _ rfl rfl _ rfl _ _ hg ?_) | (refine strow arrMothers _ _ rfl rfl _ _ rfl rfl _ _ hg ?_))
      exact retrow2 arrMothers Tryd.results37 w.heap.size _ _ _ rfl rfl (setRow_heap _ _ _ _ _ _ hg) rfl ⟨rfl, below_setRow hb (Nat.le_refl _) _⟩
end Go.Proofs.YtphnibllfpkkkaaDoor
