/- Walks of the reference: Figure, Line, Of, Sum, Parents, Follows, Shield, Mothers. -/
import Derived.Test.YtcdbkgpgjjeoiaaDoorPlain
import Derived.Deep.RegionHeld3
namespace Go.Proofs.YtcdbkgpgjjeoiaaDoor
open Go Go.RowKit
set_option maxRecDepth 100000

theorem rFigure_yes (f : Int) (h0 : 0 ≤ f) (h1 : f ≤ 15) (w : World) : Calls Tryd.prog 36 #[.int .i64 f] w fun e w' => e = .returned (.bool true) ∧ w = w' := by
  have a1 : decide (0 ≤ f) = true := by simp; omega
  have a2 : decide (f ≤ 15) = true := by simp; omega
  go_enter Tryd.func36, Tryd.ntmps36
  go_wp2
  go_ret
  exact ⟨rfl, rfl⟩
theorem rFigure_no (f : Int) (h : ¬ Fig f) (w : World) : Calls Tryd.prog 36 #[.int .i64 f] w fun e w' => e = .returned (.bool false) ∧ w = w' := by
  unfold Fig at h
  by_cases h0 : 0 ≤ f
  · have a1 : decide (0 ≤ f) = true := by simp; omega
    have a2 : decide (f ≤ 15) = false := by simp; omega
    go_enter Tryd.func36, Tryd.ntmps36
    go_wp2
    go_ret
    exact ⟨rfl, rfl⟩
  · have a1 : decide (0 ≤ f) = false := by simp; omega
    go_enter Tryd.func36, Tryd.ntmps36
    go_wp2
    go_ret
    exact ⟨rfl, rfl⟩

set_option maxHeartbeats 400000 in
theorem rLine (f k : Nat) (hf : f < 16) (hk : k ≤ 1000) (w : World) : Calls Tryd.prog 53 #[.int .i64 f, .int .i64 k] w fun e w' => e = .returned (.int .i64 (ln f k : Nat)) ∧ w = w' := by
  go_enter Tryd.func53, Tryd.ntmps53
  go_wp2_with fail
  go_loop [5, 6] (fun n i => ∃ j : Nat, j ≤ k ∧ i = .int .i64 j ∧ n = .int .i64 (f / 2 ^ j : Nat)) (fun _ i => k - (intOf i).toNat)
  case atStart => exact ⟨0, by omega, rfl, by simp⟩
  case round =>
    obtain ⟨j, hj, rfl, rfl⟩ := hrel
    have hlt0 : f / 2 ^ j < 16 := Nat.lt_of_le_of_lt (Nat.div_le_self _ _) hf
    by_cases hlt : j < k
    · have hlt' : (j : Int) < k := by omega
      have hst := hid (half_pow f j)
      generalize hd : f / 2 ^ j = d at *
      have Hd := hid hd
      clear hd
      go_wp2_with fail
      go_round
      case rel => exact ⟨j + 1, by omega, by go_num, by rw [← hst.out]; simp⟩
      case measure => simp [intOf]; omega
    · have hge : ¬ (j : Int) < k := by omega
      obtain rfl : j = k := by omega
      have hln := hid (show ln f j = 2 - f / 2 ^ j % 2 from rfl)
      generalize hd : f / 2 ^ j = d at *
      clear hd
      go_wp2_with fail
      go_ret
      exact ⟨by rw [hln.out]; congr 2; simp; omega, rfl⟩

set_option maxHeartbeats 400000 in
theorem rOf (m : Nat → Nat) (hm : ∀ i, i < 4 → 1 ≤ m i ∧ m i ≤ 2) (w : World) : Calls Tryd.prog 72 #[.agg (irow 4 (cst m))] w fun e w' => e = .returned (.int .i64 (ofT m 4 : Nat)) ∧ Below w.heap.size w w' := by
  have h0 := heap_alloc_new w (.cells (irow 4 (cst m)) 140)
  have hb0 : Below w.heap.size w (w.alloc (.cells (irow 4 (cst m)) 140)) := (Below.refl _ _).alloc (Nat.le_refl _) _
  have HM := hid hm
  clear hm
  go_enter Tryd.func72, Tryd.ntmps72
  go_wp2_with fail
  generalize hW : w.alloc (.cells (irow 4 (cst m)) 140) = w1 at *
  clear hW
  go_loop [3, 4] (fun n i => ∃ t : Nat, t ≤ 4 ∧ i = .int .i64 (3 - (t : Int)) ∧ n = .int .i64 (ofT m t : Nat)) (fun _ i => (intOf i + 1).toNat)
  case atStart => exact ⟨0, by omega, rfl, rfl⟩
  case round =>
    obtain ⟨t, ht, rfl, rfl⟩ := hrel
    have hot := ofT_lt m HM.out t (by omega)
    have hp : 2 ^ t ≤ 16 := by
      have : t = 0 ∨ t = 1 ∨ t = 2 ∨ t = 3 ∨ t = 4 := by omega
      rcases this with rfl | rfl | rfl | rfl | rfl <;> decide
    have hot' : ofT m t < 16 := by omega
    clear hot hp
    by_cases hlt : t < 4
    · have hc := cell_irow h0 (3 - t) (by omega)
      have hm1 := HM.out (3 - t) (by omega)
      have hst := hid (show ofT m (t + 1) = 2 * ofT m t + 2 - m (3 - t) from rfl)
      generalize hd : ofT m t = d at *
      have Hd := hid hd
      clear hd h0 hb0
      have hge : (0 : Int) ≤ 3 - (t : Int) := by omega
      obtain ⟨hm1, hm2⟩ := hm1
      generalize hmv : m (3 - t) = mv at *
      have e3 : (3 - (t : Int)).toNat = 3 - t := by omega
      go_wp2_with fail
      go_round
      case rel => exact ⟨t + 1, by omega, by congr 1; omega, by rw [hst.out]; congr 1; omega⟩
      case measure => simp [intOf]; omega
    · have hge : ¬ (0 : Int) ≤ 3 - (t : Int) := by omega
      obtain rfl : t = 4 := by omega
      go_wp2_with fail
      go_ret
      exact ⟨rfl, hb0⟩
end Go.Proofs.YtcdbkgpgjjeoiaaDoor
/- Walks of the reference: Sum, Parents, Follows, Derive, Shield, Mothers. -/
namespace Go.Proofs.YtcdbkgpgjjeoiaaDoor
open Go Go.RowKit
set_option maxRecDepth 100000

/-- The marks of a sum, the first k of them laid. -/
def sumTo (a b k : Nat) : Nat → Nat := fun j => if j < k then sumM a b j else 0
theorem sumTo_step (a b k : Nat) (v : Int) (hv : v = ((sumM a b k : Nat) : Int)) : irow 4 (upd (cst (sumTo a b k)) k v) = irow 4 (cst (sumTo a b (k + 1))) := by
  subst hv
  rw [upd_cst]
  apply irow_congr
  intro j hj
  simp only [cst, upN, sumTo]
  congr 1
  by_cases e : j = k
  · subst e; rw [if_pos rfl, if_pos (by omega)]
  · rw [if_neg e]
    by_cases h : j < k
    · rw [if_pos h, if_pos (by omega)]
    · rw [if_neg h, if_neg (by omega)]
theorem upd_upd (S : Nat → Int) (k : Nat) (u v : Int) : upd (upd S k u) k v = upd S k v := by
  funext i; simp only [upd]; split <;> rfl

set_option maxHeartbeats 800000 in
theorem rSum (a b : Nat) (ha : a < 16) (hb16 : b < 16) (w : World) : Calls Tryd.prog 52 #[.int .i64 a, .int .i64 b] w fun e w' => e = .returned (.int .i64 ((a ^^^ b : Nat) : Int)) ∧ Below w.heap.size w w' := by
  have h0 := heap_alloc_new w (.cells (irow 4 (fun _ => 0)) 140)
  have hb0 : Below w.heap.size w (w.alloc (.cells (irow 4 (fun _ => 0)) 140)) := (Below.refl _ _).alloc (Nat.le_refl _) _
  go_enter Tryd.func52, Tryd.ntmps52
  go_wp2_with fail
  rw [zeros4]
  generalize hW : w.alloc (.cells (irow 4 (fun _ => 0)) 140) = w1 at *
  clear hW
  go_loopw [6] (fun i wr => ∃ k : Nat, k ≤ 4 ∧ i = .int .i64 k ∧ wr.heap[w.heap.size]? = some (.cells (irow 4 (cst (sumTo a b k))) 140 (0, 0)) ∧ Below w.heap.size w wr) (fun i _ => 4 - (intOf i).toNat)
  case atStart =>
    refine ⟨0, by omega, rfl, ?_, hb0⟩
    rw [h0, show irow 4 (fun _ => 0) = irow 4 (cst (sumTo a b 0)) from irow_congr fun i hi => by simp only [cst, sumTo]; rw [if_neg (by omega)]; rfl]
  case round =>
    clear h0 hb0
    obtain ⟨k, hk, rfl, hg, hb⟩ := hrel
    by_cases hlt : k < 4
    · have hlt' : (k : Int) < 4 := by omega
      have hc := cell_irow hg k hlt
      have hf := frozen_of_row _ _ k _ _ hg
      by_cases he : ln a k = ln b k
      · have he' : (((ln a k : Nat) : Int) == ((ln b k : Nat) : Int)) = true := by simp [he]
        have He := hid he
        clear he
        go_wp2_with (go_at_call 53; refine (rLine _ k (by omega) (by omega) _).mono ?_; rintro e w' ⟨rfl, rfl⟩)
        go_roundw
        case rel => exact ⟨k + 1, by omega, by go_num, by rw [set_irow (set_irow hg k 1) k 2, upd_upd, sumTo_step a b k 2 (by simp [sumM, He.out])], (hb.setCell (by simp) _).setCell (by simp) _⟩
        case measure => simp [intOf]; omega
      · have he' : (((ln a k : Nat) : Int) == ((ln b k : Nat) : Int)) = false := by simp; omega
        have He := hid he
        clear he
        go_wp2_with (go_at_call 53; refine (rLine _ k (by omega) (by omega) _).mono ?_; rintro e w' ⟨rfl, rfl⟩)
        go_roundw
        case rel => exact ⟨k + 1, by omega, by go_num, by rw [set_irow hg k 1, sumTo_step a b k 1 (by simp [sumM, He.out])], hb.setCell (by simp) _⟩
        case measure => simp [intOf]; omega
    · have hge : ¬ (k : Int) < 4 := by omega
      obtain rfl : k = 4 := by omega
      rw [show irow 4 (cst (sumTo a b 4)) = irow 4 (cst (sumM a b)) from irow_congr fun i hi => by simp only [cst, sumTo]; rw [if_pos hi]] at hg
      have hcall := hid (rOf (sumM a b) (fun i _ => by unfold sumM; split <;> omega) wr)
      have hx := hid (ofT_sum a b ha hb16)
      go_wp2_with (first | (refine ldrow arrFour _ rfl rfl _ rfl _ _ hg ?_) | (go_at_call 72; refine hcall.out.mono ?_; rintro e w2 ⟨rfl, hb2⟩))
      go_ret
      exact ⟨by rw [← hx.out]; rfl, hb.trans (hb2.mono hb.size)⟩

set_option maxHeartbeats 400000 in
theorem rParents (k : Nat) (h8 : 8 ≤ k) (h16 : k < 16) (w : World) : Calls Tryd.prog 88 #[.int .i64 k] w fun e w' => e = .returned (.tuple #[.int .i64 (pa k : Nat), .int .i64 (pb k : Nat)]) ∧ w = w' := by
  obtain ⟨q1, q2, q3⟩ := pa_pb k h8 h16
  by_cases c1 : k < 14
  · obtain ⟨e1, e2⟩ := q1 c1
    have f1 : ((2 * (k - 8) : Nat) : Int) = 2 * ((k : Int) - 8) := by omega
    have f2 : ((2 * (k - 8) + 1 : Nat) : Int) = 2 * ((k : Int) - 8) + 1 := by omega
    rw [e1, e2, f1, f2]
    clear q1 q2 q3 e1 e2 f1 f2
    have c1' : (k : Int) < 14 := by omega
    have c8' : 8 ≤ (k : Int) := by omega
    go_enter Tryd.func88, Tryd.ntmps88
    go_wp2
    go_ret2
    exact ⟨rfl, rfl⟩
  · by_cases c2 : k = 14
    · obtain ⟨e1, e2⟩ := q2 c2
      rw [e1, e2]
      clear q1 q2 q3 e1 e2
      subst c2
      go_enter Tryd.func88, Tryd.ntmps88
      go_wp2
      go_ret2
      exact ⟨rfl, rfl⟩
    · obtain rfl : k = 15 := by omega
      obtain ⟨e1, e2⟩ := q3 rfl
      rw [e1, e2]
      clear q1 q2 q3 e1 e2
      go_enter Tryd.func88, Tryd.ntmps88
      go_wp2
      go_ret2
      exact ⟨rfl, rfl⟩
end Go.Proofs.YtcdbkgpgjjeoiaaDoor
/- Walks of the reference: Follows, Derive, Shield, Mothers. -/
namespace Go.Proofs.YtcdbkgpgjjeoiaaDoor
open Go Go.RowKit
set_option maxRecDepth 100000

set_option maxHeartbeats 800000 in
theorem rFollows_hi (F : Nat → Nat) (hF : ∀ i, i < 16 → F i < 16) (k : Nat) (hp : 8 ≤ k) (hp' : k < 16) (w : World) :
    Calls Tryd.prog 66 #[.agg (irow 16 (cst F)), .int .i64 (k : Nat)] w fun e w' => e = .returned (.int .i64 (fol F k : Nat)) ∧ Below w.heap.size w w' := by
  have c1 := pa_lt k
  have c2 := pb_lt k
  have f1 := hF _ c1
  have f2 := hF _ c2
  have hfol := hid (show fol F k = F (pa k) ^^^ F (pb k) by unfold fol; rw [if_pos hp])
  have h8 : 8 ≤ (k : Int) := by omega
  have hc1 := cell_irow (heap_alloc_new w (.cells (irow 16 (cst F)) 88)) (pa k) c1
  have hc2 := cell_irow (heap_alloc_new w (.cells (irow 16 (cst F)) 88)) (pb k) c2
  have hb0 : Below w.heap.size w (w.alloc (.cells (irow 16 (cst F)) 88)) := (Below.refl _ _).alloc (Nat.le_refl _) _
  have hpar := hid (rParents k hp hp')
  clear hF
  go_enter Tryd.func66, Tryd.ntmps66
  go_wp2_with (go_at_call 88; refine (hpar.out _).mono ?_; rintro e w' ⟨rfl, rfl⟩)
  generalize hW : w.alloc (.cells (irow 16 (cst F)) 88) = w1 at *
  have hcall := hid (fun W => rSum (F (pa k)) (F (pb k)) f1 f2 W)
  go_region_with (go_at_call 52; refine (hcall.out _).mono ?_; rintro e w2 ⟨rfl, hb2⟩)
  all_goals
    go_wp2
    go_ret
    refine ⟨by rw [hfol.out]; rfl, ?_⟩
    exact hb0.drew.trans (hb2.mono hb0.size)

set_option maxHeartbeats 800000 in
theorem rFollows_lo (F : Nat → Nat) (hF : ∀ i, i < 16 → F i < 16) (k : Nat) (hp : 4 ≤ k) (hp' : k < 8) (w : World) :
    Calls Tryd.prog 66 #[.agg (irow 16 (cst F)), .int .i64 (k : Nat)] w fun e w' => e = .returned (.int .i64 (fol F k : Nat)) ∧ Below w.heap.size w w' := by
  have hn : ¬ (8 : Int) ≤ k := by omega
  obtain ⟨s, rfl⟩ : ∃ s, k = s + 4 := ⟨k - 4, by omega⟩
  have hfol := hid (show fol F (s + 4) = ofT (fun i => ln (F i) s) 4 by unfold fol; rw [if_neg (by omega), ofT_dg]; rfl)
  have h0 := heap_alloc2_old w (.cells (irow 16 (cst F)) 88) (.cells (irow 4 (fun _ => 0)) 140)
  have h1 := heap_alloc2_new w (.cells (irow 16 (cst F)) 88) (.cells (irow 4 (fun _ => 0)) 140)
  have hb0 : Below w.heap.size w ((w.alloc (.cells (irow 16 (cst F)) 88)).alloc (.cells (irow 4 (fun _ => 0)) 140)) := ((Below.refl _ _).alloc (Nat.le_refl _) _).alloc (by simp) _
  have HF := hid hF
  clear hF
  go_enter Tryd.func66, Tryd.ntmps66
  go_wp2_with fail
  rw [zeros4]
  generalize hW : ((w.alloc (.cells (irow 16 (cst F)) 88)).alloc (.cells (irow 4 (fun _ => 0)) 140)) = w1 at *
  clear hW
  go_loopw [8] (fun i wr => ∃ n : Nat, n ≤ 4 ∧ i = .int .i64 n ∧ wr.heap[w.heap.size + 1]? = some (.cells (irow 4 (cst (fun j => if j < n then ln (F j) s else 0))) 140 (0, 0)) ∧ wr.heap[w.heap.size]? = some (.cells (irow 16 (cst F)) 88 (0, 0)) ∧ Below w.heap.size w wr) (fun i _ => 4 - (intOf i).toNat)
  case atStart =>
    refine ⟨0, by omega, rfl, ?_, h0, hb0⟩
    rw [h1, show irow 4 (fun _ => 0) = irow 4 (cst (fun j => if j < 0 then ln (F j) s else 0)) from irow_congr fun i hi => by simp only [cst]; rw [if_neg (by omega)]; rfl]
  case round =>
    clear h0 h1 hb0
    obtain ⟨n, hn4, rfl, hg, hg0, hb⟩ := hrel
    by_cases hlt : n < 4
    · have hlt' : (n : Int) < 4 := by omega
      have hc := cell_irow hg n hlt
      have hf := frozen_of_row _ _ n _ _ hg
      have hc0 := cell_irow hg0 n (by omega)
      have hFn := HF.out n (by omega)
      have hcall := hid (fun W => rLine (F n) s hFn (by omega) W)
      go_wp2_with (go_at_call 53; refine (hcall.out _).mono ?_; rintro e w' ⟨rfl, rfl⟩)
      go_roundw
      case rel =>
        refine ⟨n + 1, by omega, by go_num, ?_, by rw [heap_setCell_other _ _ _ _ (by simp)]; exact hg0, hb.setCell (by simp) _⟩
        rw [set_irow hg n, upd_cst, irow_congr (S := cst (upN _ _ _)) (T := cst (fun j => if j < n + 1 then ln (F j) s else 0)) fun i hi => ?_]
        simp only [cst, upN]
        congr 1
        by_cases e : i = n
        · subst e; rw [if_pos rfl, if_pos (by omega)]
        · rw [if_neg e]
          by_cases h : i < n
          · rw [if_pos h, if_pos (by omega)]
          · rw [if_neg h, if_neg (by omega)]
      case measure => simp [intOf]; omega
    · have hge : ¬ (n : Int) < 4 := by omega
      obtain rfl : n = 4 := by omega
      rw [irow_congr (S := cst (fun j => if j < 4 then ln (F j) s else 0)) (T := cst (fun j => ln (F j) s)) fun i hi => by simp only [cst]; rw [if_pos hi]] at hg
      have hcall := hid (rOf (fun j => ln (F j) s) (fun i _ => ln_bd _ _) wr)
      go_wp2_with (first | (refine ldrow arrFour _ rfl rfl _ rfl _ _ hg ?_) | (go_at_call 72; refine hcall.out.mono ?_; rintro e w2 ⟨rfl, hb2⟩))
      go_ret
      exact ⟨by rw [hfol.out]; rfl, hb.trans (hb2.mono hb.size)⟩

theorem rFollows (F : Nat → Nat) (hF : ∀ i, i < 16 → F i < 16) (k : Nat) (hp : 4 ≤ k) (hp' : k < 16) (w : World) :
    Calls Tryd.prog 66 #[.agg (irow 16 (cst F)), .int .i64 (k : Nat)] w fun e w' => e = .returned (.int .i64 (fol F k : Nat)) ∧ Below w.heap.size w w' := by
  by_cases h : 8 ≤ k
  · exact rFollows_hi F hF k h hp' w
  · exact rFollows_lo F hF k hp (by omega) w
end Go.Proofs.YtcdbkgpgjjeoiaaDoor
/- Walks of the reference: Derive, Shield, Mothers. -/
namespace Go.Proofs.YtcdbkgpgjjeoiaaDoor
open Go Go.RowKit
set_option maxRecDepth 100000

theorem build4 (M : Nat → Nat) : (#[.int .i64 ((M 0 : Nat) : Int), .int .i64 ((M 1 : Nat) : Int), .int .i64 ((M 2 : Nat) : Int), .int .i64 ((M 3 : Nat) : Int), .int .i64 0, .int .i64 0, .int .i64 0, .int .i64 0, .int .i64 0, .int .i64 0, .int .i64 0, .int .i64 0, .int .i64 0, .int .i64 0, .int .i64 0, .int .i64 0] : Array Value) = irow 16 (cst (overN 4 M (fun _ => 0))) := rfl

set_option maxHeartbeats 400000 in
theorem rShield_yes (S : Nat → Int) (hS : ∀ i, i < 16 → Fig (S i)) (w : World) :
    Calls Tryd.prog 41 #[.agg (irow 16 S)] w fun e w' => e = .returned (.bool true) ∧ Below w.heap.size w w' := by
  have h0 := heap_alloc_new w (.cells (irow 16 S) 88)
  have hb0 : Below w.heap.size w (w.alloc (.cells (irow 16 S) 88)) := (Below.refl _ _).alloc (Nat.le_refl _) _
  have HS := hid hS
  clear hS
  go_enter Tryd.func41, Tryd.ntmps41
  go_wp2_with fail
  generalize hW : w.alloc (.cells (irow 16 S) 88) = w1 at *
  clear hW
  go_loop [3] (fun i => ∃ n : Nat, n ≤ 16 ∧ i = .int .i64 n) (fun i => 16 - (intOf i).toNat)
  case atStart => exact ⟨0, by omega, rfl⟩
  case round =>
    obtain ⟨n, hn, rfl⟩ := hrel
    by_cases hlt : n < 16
    · have hlt' : (n : Int) < 16 := by omega
      have hc := cell_irow h0 n hlt
      obtain ⟨f0, f1⟩ := HS.out n hlt
      have hcall := hid (fun W => rFigure_yes (S n) f0 f1 W)
      go_wp2_with (go_at_call 36; refine (hcall.out _).mono ?_; rintro e w' ⟨rfl, rfl⟩)
      go_round
      case rel => exact ⟨n + 1, by omega, by go_num⟩
      case measure => simp [intOf]; omega
    · have hge : ¬ (n : Int) < 16 := by omega
      go_wp2_with fail
      go_ret
      exact ⟨rfl, hb0⟩

set_option maxHeartbeats 400000 in
theorem rShield_no (S : Nat → Int) (hS : ¬ ∀ i, i < 16 → Fig (S i)) (w : World) :
    Calls Tryd.prog 41 #[.agg (irow 16 S)] w fun e w' => e = .returned (.bool false) ∧ Below w.heap.size w w' := by
  have h0 := heap_alloc_new w (.cells (irow 16 S) 88)
  have hb0 : Below w.heap.size w (w.alloc (.cells (irow 16 S) 88)) := (Below.refl _ _).alloc (Nat.le_refl _) _
  have hex : ∃ j, j < 16 ∧ ¬ Fig (S j) := by
    apply Classical.byContradiction
    intro h
    exact hS fun i hi => Classical.byContradiction fun hb => h ⟨i, hi, hb⟩
  obtain ⟨j, ⟨hj, hbad⟩, hl⟩ := exists_least hex
  have HV := hid (show ∀ i, i < j → Fig (S i) from fun i hi => Classical.byContradiction fun hb => absurd (hl i ⟨by omega, hb⟩) (by omega))
  have HB := hid hbad
  clear hS hex hl hbad
  go_enter Tryd.func41, Tryd.ntmps41
  go_wp2_with fail
  generalize hW : w.alloc (.cells (irow 16 S) 88) = w1 at *
  clear hW
  go_loop [3] (fun i => ∃ n : Nat, n ≤ j ∧ i = .int .i64 n) (fun i => 16 - (intOf i).toNat)
  case atStart => exact ⟨0, by omega, rfl⟩
  case round =>
    obtain ⟨n, hn, rfl⟩ := hrel
    have hlt' : (n : Int) < 16 := by omega
    have hc := cell_irow h0 n (by omega)
    by_cases hlt : n < j
    · obtain ⟨f0, f1⟩ := HV.out n hlt
      have hcall := hid (fun W => rFigure_yes (S n) f0 f1 W)
      go_wp2_with (go_at_call 36; refine (hcall.out _).mono ?_; rintro e w' ⟨rfl, rfl⟩)
      go_round
      case rel => exact ⟨n + 1, by omega, by go_num⟩
      case measure => simp [intOf]; omega
    · obtain rfl : n = j := by omega
      have hcall := hid (fun W => rFigure_no (S n) HB.out W)
      go_wp2_with (go_at_call 36; refine (hcall.out _).mono ?_; rintro e w' ⟨rfl, rfl⟩)
      go_ret
      exact ⟨rfl, hb0⟩

theorem lit4 (M : Nat → Nat) : (#[.int .i64 ((M 0 : Nat) : Int), .int .i64 ((M 1 : Nat) : Int), .int .i64 ((M 2 : Nat) : Int), .int .i64 ((M 3 : Nat) : Int)] : Array Value) = irow 4 (cst M) := rfl

end Go.Proofs.YtcdbkgpgjjeoiaaDoor
