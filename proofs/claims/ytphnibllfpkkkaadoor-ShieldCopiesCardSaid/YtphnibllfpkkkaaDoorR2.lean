/- Walks of the reference: Sum, Parents, Follows, Derive, Shield, Mothers. -/
import Derived.Test.YtphnibllfpkkkaaDoorR1
namespace Go.Proofs.YtphnibllfpkkkaaDoor
open Go Go.RowKit
set_option maxRecDepth 100000

/-- The marks of a sum, the first k of them laid. -/
def sumTo (a b k : Nat) : Nat → Nat := fun j => if j < k then sumM a b j else 0
theorem sumTo_step (a b k : Nat) (v : Int) (hv : v = ((sumM a b k : Nat) : Int)) : irow 4 (upd (cst (sumTo a b k)) k v) = irow 4 (cst (sumTo a b (k + 1))) := by
  subst hv
  rw [upd_cst]
  apply irow_congr
  intro j hj
  simp only [cst, upN, sumTo]
  congr 1
  by_cases e : j = k
  · subst e; rw [if_pos rfl, if_pos (by omega)]
  · rw [if_neg e]
    by_cases h : j < k
    · rw [if_pos h, if_pos (by omega)]
    · rw [if_neg h, if_neg (by omega)]
theorem upd_upd (S : Nat → Int) (k : Nat) (u v : Int) : upd (upd S k u) k v = upd S k v := by
  funext i; simp only [upd]; split <;> rfl

set_option maxHeartbeats 800000 in
theorem rSum (a b : Nat) (ha : a < 16) (hb16 : b < 16) (w : World) : Calls Tryd.prog 36 #[.int .i64 a, .int .i64 b] w fun e w' => e = .returned (.int .i64 ((a ^^^ b : Nat) : Int)) ∧ Below w.heap.size w w' := by
  have h0 := heap_alloc_new w (.cells (irow 4 (fun _ => 0)) 54)
  have hb0 : Below w.heap.size w (w.alloc (.cells (irow 4 (fun _ => 0)) 54)) := (Below.refl _ _).alloc (Nat.le_refl _) _
  go_enter Tryd.func36, Tryd.ntmps36
  go_wp2_with fail
  rw [zeros4]
  generalize hW : w.alloc (.cells (irow 4 (fun _ => 0)) 54) = w1 at *
  clear hW
  go_loopw [6] (fun i wr => ∃ k : Nat, k ≤ 4 ∧ i = .int .i64 k ∧ wr.heap[w.heap.size]? = some (.cells (irow 4 (cst (sumTo a b k))) 54 (0, 0)) ∧ Below w.heap.size w wr) (fun i _ => 4 - (intOf i).toNat)
  case atStart =>
    refine ⟨0, by omega, rfl, ?_, hb0⟩
    rw [h0, show irow 4 (fun _ => 0) = irow 4 (cst (sumTo a b 0)) from irow_congr fun i hi => by simp only [cst, sumTo]; rw [if_neg (by omega)]; rfl]
  case round =>
    clear h0 hb0
    obtain ⟨k, hk, rfl, hg, hb⟩ := hrel
    by_cases hlt : k < 4
    · have hlt' : (k : Int) < 4 := by omega
      have hc := cell_irow hg k hlt
      have hf := frozen_of_row _ _ k _ _ hg
      by_cases he : ln a k = ln b k
      · have he' : (((ln a k : Nat) : Int) == ((ln b k : Nat) : Int)) = true := by simp [he]
        have He := hid he
        clear he
        go_wp2_with (go_at_call 18; refine (rLine _ k (by omega) (by omega) _).mono ?_; rintro e w' ⟨rfl, rfl⟩)
        go_roundw
        case rel => exact ⟨k + 1, by omega, by go_num, by rw [set_irow (set_irow hg k 1) k 2, upd_upd, sumTo_step a b k 2 (by simp [sumM, He.out])], (hb.setCell (by simp) _).setCell (by simp) _⟩
        case measure => simp [intOf]; omega
      · have he' : (((ln a k : Nat) : Int) == ((ln b k : Nat) : Int)) = false := by simp; omega
        have He := hid he
        clear he
        go_wp2_with (go_at_call 18; refine (rLine _ k (by omega) (by omega) _).mono ?_; rintro e w' ⟨rfl, rfl⟩)
        go_roundw
        case rel => exact ⟨k + 1, by omega, by go_num, by rw [set_irow hg k 1, sumTo_step a b k 1 (by simp [sumM, He.out])], hb.setCell (by simp) _⟩
        case measure => simp [intOf]; omega
    · have hge : ¬ (k : Int) < 4 := by omega
      obtain rfl : k = 4 := by omega
      rw [show irow 4 (cst (sumTo a b 4)) = irow 4 (cst (sumM a b)) from irow_congr fun i hi => by simp only [cst, sumTo]; rw [if_pos hi]] at hg
      have hcall := hid (rOf (sumM a b) (fun i _ => by unfold sumM; split <;> omega) wr)
      have hx := hid (ofT_sum a b ha hb16)
      go_wp2_with (first | (refine ldrow arrFour _ rfl rfl _ rfl _ _ hg ?_) | (go_at_call 35; refine hcall.out.mono ?_; rintro e w2 ⟨rfl, hb2⟩))
      go_ret
      exact ⟨by rw [← hx.out]; rfl, hb.trans (hb2.mono hb.size)⟩

set_option maxHeartbeats 400000 in
theorem rParents (k : Nat) (h8 : 8 ≤ k) (h16 : k < 16) (w : World) : Calls Tryd.prog 54 #[.int .i64 k] w fun e w' => e = .returned (.tuple #[.int .i64 (pa k : Nat), .int .i64 (pb k : Nat)]) ∧ w = w' := by
  obtain ⟨q1, q2, q3⟩ := pa_pb k h8 h16
  by_cases c1 : k < 14
  · obtain ⟨e1, e2⟩ := q1 c1
    have f1 : ((2 * (k - 8) : Nat) : Int) = 2 * ((k : Int) - 8) := by omega
    have f2 : ((2 * (k - 8) + 1 : Nat) : Int) = 2 * ((k : Int) - 8) + 1 := by omega
    rw [e1, e2, f1, f2]
    clear q1 q2 q3 e1 e2 f1 f2
    have c1' : (k : Int) < 14 := by omega
    have c8' : 8 ≤ (k : Int) := by omega
    go_enter Tryd.func54, Tryd.ntmps54
    go_wp2
    go_ret2
    exact ⟨rfl, rfl⟩
  · by_cases c2 : k = 14
    · obtain ⟨e1, e2⟩ := q2 c2
      rw [e1, e2]
      clear q1 q2 q3 e1 e2
      subst c2
      go_enter Tryd.func54, Tryd.ntmps54
      go_wp2
      go_ret2
      exact ⟨rfl, rfl⟩
    · obtain rfl : k = 15 := by omega
      obtain ⟨e1, e2⟩ := q3 rfl
      rw [e1, e2]
      clear q1 q2 q3 e1 e2
      go_enter Tryd.func54, Tryd.ntmps54
      go_wp2
      go_ret2
      exact ⟨rfl, rfl⟩
end Go.Proofs.YtphnibllfpkkkaaDoor
