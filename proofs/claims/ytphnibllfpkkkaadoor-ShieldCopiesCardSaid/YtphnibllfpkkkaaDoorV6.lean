/- The law ShieldFigures: the walk. -/
import Derived.Test.YtphnibllfpkkkaaDoorV3
import Derived.Test.YtphnibllfpkkkaaDoorW11
import Derived.Test.YtphnibllfpkkkaaDoorR7
import Derived.Deep.DeepMust
import Derived.BigRegion
import Derived.StillTailTactics
namespace Go.Proofs.YtphnibllfpkkkaaDoor
open Go Go.RowKit
set_option maxRecDepth 100000

theorem eqlZero4 (b : Bool) (S : Nat → Int) (hb : b = true ↔ ∀ i, i < 4 → S i = 0) (w : World) : (binOp .eql 54 (.agg (irow 4 S)) (.agg #[.int .i64 0, .int .i64 0, .int .i64 0, .int .i64 0])).run Tryd.prog w = .ok (.bool b) w := by
  rw [zeros4]
  exact eqlFour S (fun _ => 0) b hb w
theorem quiet_same {P : Program} {f : FuncId} {args : Array Value} {w : World} {n : Nat} {v : Value}
    (h : Calls P f args (w.drewN n) fun e w' => e = .returned v ∧ w.drewN n = w') : Calls P f args (w.drewN n) fun e w'' => e = .returned v ∧ ∃ m, w'' = w.drewN m :=
  h.mono fun _ _ ⟨he, hm⟩ => ⟨he, n, hm.symm⟩

set_option maxHeartbeats 1000000 in
theorem lawFig_no (f g : Int) (hf : ¬ Fig f) (w : World) (L : Base w) :
    Calls Tryd.prog 6 #[.int .i64 f, .int .i64 g] w fun e w' => e = .returned (.bool true) ∧ Below w.heap.size w w' := by
  have HC := hid (fun W => check_no f hf W)
  have HN := hid (fun W => name_no f hf W)
  have HM := hid (fun W => marks_no f hf W)
  have HS := hid (fun W => sum_no f g (fun h => hf h.1) W)
  have HT := hid (fun W => turned_no f hf W)
  have HO := hid (fun W => opp_no f hf W)
  have HF := hid (fun W => rFigure_no f hf W)
  have HL := hid (fun W (hb : Below w.heap.size w W) => known_b W (L.below hb))
  have heq := eqlZero4 true (fun _ => 0) (by simp)
  clear hf L
  go_enter Tryd.func6, Tryd.ntmps6
  go_wp2_with (first
    | (go_at_call 28; go_must (refine (HC.out _).mono ?_); rintro e w' ⟨rfl, rfl⟩)
    | (go_at_call 29; go_must (refine (HN.out _).mono ?_); rintro e w1 ⟨rfl, hb1⟩)
    | (go_at_call 30; go_must (refine (HM.out _).mono ?_); rintro e w2 ⟨rfl, hc2⟩; have hb2 := hb1.trans (hc2.mono hb1.size); have hz := heap_alloc_new w2 (.cells (irow 4 (fun _ => 0)) 54); have hbz := hb2.alloc hb2.size (.cells (irow 4 (fun _ => 0)) 54))
    | (rw [zeros4]; refine strow arrFour _ _ rfl rfl _ (fun _ => 0) rfl rfl _ _ hz ?_; have hbs := below_setRow hbz hb2.size (irow 4 (fun _ => 0)); have hgs := setRow_heap _ _ _ (irow 4 (fun _ => 0)) _ _ hz; clear hz hbz hc2; generalize World.setRow _ _ _ = ws at hgs hbs ⊢)
    | (go_at_call 31; go_must (refine (HS.out _).mono ?_); rintro e w3 ⟨rfl, hc3⟩; obtain ⟨hb3, hg3⟩ := stepO hbs hbs.size hgs hc3)
    | (go_at_call 32; go_must (refine (HT.out _).mono ?_); rintro e w4 ⟨rfl, hc4⟩; obtain ⟨hb4, hg4⟩ := stepO hb3 hb3.size hg3 hc4)
    | (go_at_call 33; go_must (refine (HO.out _).mono ?_); rintro e w5 ⟨rfl, hc5⟩; obtain ⟨hb5, hg5⟩ := stepO hb4 hb4.size hg4 hc5)
    | (go_at_call 24; go_must (refine (HF.out _).mono ?_); rintro e w' ⟨rfl, rfl⟩)
    | (refine ldrowG arrFour _ rfl rfl _ rfl _ _ hg5 ?_)
    | (go_at_call 19; go_must (refine (HL.out _ hb5).mono ?_); rintro e w6 ⟨rfl, hc6⟩; obtain ⟨hb6, h6⟩ := stepO hb5 hb5.size hg5 hc6))
  go_ret
  exact ⟨rfl, hb6⟩

/-- The marks from below, the first k of them laid. -/
def backTo (a k : Nat) : Nat → Nat := fun j => if 3 - j < k then ln a (3 - j) else 0
/-- The other marks, the first k of them laid. -/
def awayTo (a k : Nat) : Nat → Nat := fun j => if j < k then 3 - ln a j else 0
theorem back_step (a k : Nat) (hk : k < 4) : irow 4 (upd (cst (backTo a k)) (3 - k) ((ln a k : Nat) : Int)) = irow 4 (cst (backTo a (k + 1))) := by
  rw [upd_cst]
  apply irow_congr
  intro j hj
  simp only [cst, upN, backTo]
  congr 1
  by_cases e : j = 3 - k
  · subst e; rw [if_pos rfl, if_pos (by omega), show 3 - (3 - k) = k by omega]
  · rw [if_neg e]
    by_cases h : 3 - j < k
    · rw [if_pos h, if_pos (by omega)]
    · rw [if_neg h, if_neg (by omega)]
theorem away_step (a k : Nat) : irow 4 (upd (cst (awayTo a k)) k (3 - ((ln a k : Nat) : Int))) = irow 4 (cst (awayTo a (k + 1))) := by
  have hb := ln_bd a k
  rw [show 3 - ((ln a k : Nat) : Int) = ((3 - ln a k : Nat) : Int) by omega, upd_cst]
  apply irow_congr
  intro j hj
  simp only [cst, upN, awayTo]
  congr 1
  by_cases e : j = k
  · subst e; rw [if_pos rfl, if_pos (by omega)]
  · rw [if_neg e]
    by_cases h : j < k
    · rw [if_pos h, if_pos (by omega)]
    · rw [if_neg h, if_neg (by omega)]
theorem ofT_back (a : Nat) (ha : a < 16) : ofT (fun j => ln a (3 - j)) 4 = rev4 a := by
  have : ∀ a : Fin 16, ofT (fun j => ln a.1 (3 - j)) 4 = rev4 a.1 := by decide
  exact this ⟨a, ha⟩
theorem ofT_away (a : Nat) (ha : a < 16) : ofT (fun j => 3 - ln a j) 4 = a ^^^ 15 := by
  have : ∀ a : Fin 16, ofT (fun j => 3 - ln a.1 j) 4 = a.1 ^^^ 15 := by decide
  exact this ⟨a, ha⟩

set_option maxHeartbeats 2000000 in
theorem lawFig_yes (a : Nat) (ha : a < 16) (g : Int) (bs es : Int) (hsum : ∀ W : World, Calls Tryd.prog 31 #[.int .i64 a, .int .i64 g] W fun e w' => e = .returned (.tuple #[.int .i64 bs, .int .i64 es]) ∧ Below W.heap.size W w')
    (hrs : (¬ Fig g ∧ es = 2 ∧ bs = 0) ∨ (Fig g ∧ es = 0 ∧ ∀ W : World, Calls Tryd.prog 36 #[.int .i64 a, .int .i64 g] W fun e w' => e = .returned (.int .i64 bs) ∧ Below W.heap.size W w')) (w : World) (L : Base w) :
    Calls Tryd.prog 6 #[.int .i64 a, .int .i64 g] w fun e w' => e = .returned (.bool true) ∧ Below w.heap.size w w' := by
  have HC := hid (fun W => check_yes a (by omega) (by omega) W)
  have HN := hid (fun W (hb : Below w.heap.size w W) => name_yes a ha W (L.below hb))
  have HM := hid (fun W => marks_yes a ha W)
  have HS := hid hsum
  have HT := hid (fun W => turned_yes a ha W)
  have HO := hid (fun W => opp_yes a ha W)
  have HF := hid (fun W => rFigure_yes a (by omega) (by omega) W)
  have HL := hid (fun W (hb : Below w.heap.size w W) => known_b W (L.below hb))
  have HR := hid hrs
  clear hsum hrs L
  go_enter Tryd.func6, Tryd.ntmps6
  go_wp2_with (first
    | (go_at_call 28; go_must (refine (HC.out _).mono ?_); rintro e w' ⟨rfl, rfl⟩)
    | (go_at_call 29; go_must (refine (HN.out _ (Below.refl _ _)).mono ?_); rintro e w1 ⟨rfl, hb1⟩)
    | (go_at_call 30; go_must (refine (HM.out _).mono ?_); rintro e w2 ⟨rfl, hc2⟩; have hb2 := hb1.trans (hc2.mono hb1.size); have hz := heap_alloc_new w2 (.cells (irow 4 (fun _ => 0)) 54); have hbz := hb2.alloc hb2.size (.cells (irow 4 (fun _ => 0)) 54))
    | (rw [zeros4]; refine strow arrFour _ _ rfl rfl _ _ rfl rfl _ _ hz ?_; have hbs := below_setRow hbz hb2.size (irow 4 (cst (ln a))); have hgs := setRow_heap _ _ _ (irow 4 (cst (ln a))) _ _ hz; clear hz hbz hc2; generalize World.setRow _ _ _ = ws at hgs hbs ⊢)
    | (go_at_call 31; go_must (refine (HS.out _).mono ?_); rintro e w3 ⟨rfl, hc3⟩; obtain ⟨hb3, hg3⟩ := stepO hbs hbs.size hgs hc3)
    | (go_at_call 32; go_must (refine (HT.out _).mono ?_); rintro e w4 ⟨rfl, hc4⟩; obtain ⟨hb4, hg4⟩ := stepO hb3 hb3.size hg3 hc4)
    | (go_at_call 33; go_must (refine (HO.out _).mono ?_); rintro e w5 ⟨rfl, hc5⟩; obtain ⟨hb5, hg5⟩ := stepO hb4 hb4.size hg4 hc5)
    | (go_at_call 24; go_must (refine (HF.out _).mono ?_); rintro e w' ⟨rfl, rfl⟩)
    | (go_at_call 34; go_must (refine (rNames _).mono ?_); rintro e w6 ⟨rfl, hn6, hc6⟩; obtain ⟨hb6, hg6⟩ := stepO hb5 hb5.size hg5 hc6; have hna := hn6 a ha; clear hn6 hgs hbs hc3 hb3 hg3 hc4 hb4 hg4 hc5))
  rw [zeros4]
  have hz16 := heap_alloc2_old w6 (.cells (irow 4 (fun _ => 0)) 54) (.cells (irow 4 (fun _ => 0)) 54)
  have hz17 := heap_alloc2_new w6 (.cells (irow 4 (fun _ => 0)) 54) (.cells (irow 4 (fun _ => 0)) 54)
  have hbz := (hb6.alloc hb6.size (.cells (irow 4 (fun _ => 0)) 54)).alloc (by have := hb6.size; simp; omega) (.cells (irow 4 (fun _ => 0)) 54)
  have hz8 : ((w6.alloc (.cells (irow 4 (fun _ => 0)) 54)).alloc (.cells (irow 4 (fun _ => 0)) 54)).heap[w2.heap.size]? = some (.cells (irow 4 (cst (ln a))) 54 (0, 0)) := by
    have h1 := heap_lt hg6
    rw [heap_alloc_old _ _ (by simp; omega), heap_alloc_old _ _ h1]; exact hg6
  have h28 := heap_lt hg6
  have hB := hb6.size
  have hB2 := hb2.size
  generalize (w6.alloc (.cells (irow 4 (fun _ => 0)) 54)).alloc (.cells (irow 4 (fun _ => 0)) 54) = wz at hz16 hz17 hbz hz8 ⊢
  clear hg6 hb6 hc6 hg5 hb5 hna
  have hs8 : w2.heap.size < w6.heap.size := h28
  clear h28
  generalize w2.heap.size = B8 at *
  generalize w6.heap.size = B at *
  generalize w5.heap.size = B5 at *
  go_loopw [18] (fun i wr => ∃ k : Nat, k ≤ 4 ∧ i = .int .i64 k ∧ wr.heap[B8]? = some (.cells (irow 4 (cst (ln a))) 54 (0, 0)) ∧ wr.heap[B]? = some (.cells (irow 4 (cst (backTo a k))) 54 (0, 0)) ∧ wr.heap[B + 1]? = some (.cells (irow 4 (cst (awayTo a k))) 54 (0, 0)) ∧ Below w.heap.size w wr) (fun i _ => 4 - (intOf i).toNat)
  case atStart => exact ⟨0, by omega, rfl, hz8, hz16, hz17, hbz⟩
  case round =>
    clear hz8 hz16 hz17 hbz
    obtain ⟨k, hk, rfl, hg8, hg16, hg17, hb⟩ := hrel
    by_cases hlt : k < 4
    · have hlt' : (k : Int) < 4 := by omega
      obtain ⟨j, hj⟩ : ∃ j : Nat, 3 - k = j := ⟨_, rfl⟩
      have hs1 := back_step a k hlt
      rw [hj] at hs1
      have Hs1 := hid hs1
      have Hs2 := hid (away_step a k)
      have hc8 : wr.cell? ⟨B8, k, none⟩ = some (.int .i64 ((ln a k : Nat) : Int)) := cell_irow hg8 k hlt
      have hline := hid (fun W => rLine a k ha (by omega) W)
      have hjl : j < 4 := by omega
      have hj' : (3 : Int) - (k : Nat) = (j : Nat) := by omega
      have hwj := wrap_nat j (by omega)
      have hvb := ln_bd a k
      have hq : (((ln a k : Nat) : Int) != ((ln a k : Nat) : Int)) = false := by simp
      have hw3 : IntKind.i64.wrap (3 - ((ln a k : Nat) : Int)) = 3 - ((ln a k : Nat) : Int) := IntWalk.i64_in _ (by omega)
      have n1 : B8 ≠ B := by omega
      have n2 : B8 ≠ B + 1 := by omega
      have n3 : B ≠ B8 := by omega
      have n4 : B + 1 ≠ B8 := by omega
      have n5 : B ≠ B + 1 := by omega
      have hf1 := frozen_of_row _ _ j _ _ hg16
      have hf2 := frozen_of_row _ _ k _ _ hg17
      have hd1 := cell_irow hg16 j hjl
      have hd2 := cell_irow hg17 k hlt
      have G8 := hid hg8
      have G16 := hid hg16
      have G17 := hid hg17
      clear hs1 hj hg8 hg16 hg17
      generalize hv : ln a k = v at hc8 hline Hs1 Hs2 hvb hq hw3
      clear hv
      go_wp2_with fail
      go_quiet ((go_at_call 18; exact quiet_same (hline.out _)))
      go_wp2_with fail
      go_region
      generalize hWq : wr.drewN _ = wq
      have G8q : wq.heap[B8]? = some (.cells (irow 4 (cst (ln a))) 54 (0, 0)) := by rw [← hWq]; exact G8.out
      have G16q : wq.heap[B]? = some (.cells (irow 4 (cst (backTo a k))) 54 (0, 0)) := by rw [← hWq]; exact G16.out
      have G17q : wq.heap[B + 1]? = some (.cells (irow 4 (cst (awayTo a k))) 54 (0, 0)) := by rw [← hWq]; exact G17.out
      have hbq : Below w.heap.size w wq := by rw [← hWq]; exact below_drewN hb _
      clear hWq
      have P8 := (heap_setCell_other (wq.setCell ⟨B, j, none⟩ (.int .i64 (v : Nat))) ⟨B + 1, k, none⟩ B8 (.int .i64 (3 - ((v : Nat) : Int))) n2).trans ((heap_setCell_other wq ⟨B, j, none⟩ B8 (.int .i64 (v : Nat)) n1).trans G8q)
      have P16 := (heap_setCell_other (wq.setCell ⟨B, j, none⟩ (.int .i64 (v : Nat))) ⟨B + 1, k, none⟩ B (.int .i64 (3 - ((v : Nat) : Int))) n5).trans (set_irow G16q j (v : Nat))
      have P17 := set_irow ((heap_setCell_other wq ⟨B, j, none⟩ (B + 1) (.int .i64 (v : Nat)) (Ne.symm n5)).trans G17q) k (3 - ((v : Nat) : Int))
      have hbp : Below w.heap.size w ((wq.setCell ⟨B, j, none⟩ (.int .i64 (v : Nat))).setCell ⟨B + 1, k, none⟩ (.int .i64 (3 - ((v : Nat) : Int)))) := (hbq.setCell (show w.heap.size ≤ B by omega) _).setCell (show w.heap.size ≤ B + 1 by omega) _
      rw [Hs1.out] at P16
      rw [Hs2.out] at P17
      clear G8q G16q G17q hbq
      generalize (wq.setCell ⟨B, j, none⟩ (.int .i64 (v : Nat))).setCell ⟨B + 1, k, none⟩ (.int .i64 (3 - ((v : Nat) : Int))) = wp at P8 P16 P17 hbp ⊢
      have Q8 := hid P8
      have Q16 := hid P16
      have Q17 := hid P17
      clear P8 P16 P17
      go_wp2_with fail
      go_roundw
      case rel => exact ⟨k + 1, by omega, by go_num, Q8.out, Q16.out, Q17.out, hbp⟩
      case measure => simp [intOf]; omega
    · have hge : ¬ (k : Int) < 4 := by omega
      obtain rfl : k = 4 := by omega
      have e16 : irow 4 (cst (backTo a 4)) = irow 4 (cst (fun j => ln a (3 - j))) := irow_congr fun i hi => by simp only [cst, backTo]; rw [if_pos (by omega)]
      have e17 : irow 4 (cst (awayTo a 4)) = irow 4 (cst (fun j => 3 - ln a j)) := irow_congr fun i hi => by simp only [cst, awayTo]; rw [if_pos hi]
      rw [e16] at hg16
      rw [e17] at hg17
      clear e16 e17 hg8
      have H1 := hid (fun W => rOf (fun j => ln a (3 - j)) (fun i _ => ln_bd a (3 - i)) W)
      have H2 := hid (fun W => rOf (fun j => 3 - ln a j) (fun i _ => by have := ln_bd a i; omega) W)
      rw [ofT_back a ha] at H1
      rw [ofT_away a ha] at H2
      have hBw : w.heap.size ≤ B + 1 := by omega
      rcases HR.out with ⟨hg, rfl, rfl⟩ | ⟨hg, rfl, hrs⟩
      · have hF2 := hid (fun W => rFigure_no g hg W)
        clear hg HR
        go_wp2_with (first
          | (refine ldrow arrFour _ rfl rfl _ rfl _ _ hg16 ?_)
          | (go_at_call 35; refine (H1.out _).mono ?_; rintro e w7 ⟨rfl, hc7⟩; obtain ⟨hb7, hg7⟩ := stepO hb hb.size hg17 hc7; clear H1)
          | (refine ldrowG arrFour _ rfl rfl _ rfl _ _ hg7 ?_)
          | (go_at_call 35; refine (H2.out _).mono ?_; rintro e w8 ⟨rfl, hc8⟩; obtain ⟨hb8, hg8⟩ := stepO hb7 hb7.size hg7 hc8)
          | (go_at_call 24; refine (hF2.out _).mono ?_; rintro e w' ⟨rfl, rfl⟩)
          | (go_at_call 19; refine (HL.out _ hb8).mono ?_; rintro e w9 ⟨rfl, hc9⟩; obtain ⟨hb9, hg9⟩ := stepO hb8 hb8.size hg8 hc9))
        go_ret
        exact ⟨rfl, hb9⟩
      · have hF2 := hid (fun W => rFigure_yes g hg.1 hg.2 W)
        have HRS := hid hrs
        clear hg HR hrs
        go_wp2_with (first
          | (refine ldrow arrFour _ rfl rfl _ rfl _ _ hg16 ?_)
          | (go_at_call 35; refine (H1.out _).mono ?_; rintro e w7 ⟨rfl, hc7⟩; obtain ⟨hb7, hg7⟩ := stepO hb hb.size hg17 hc7; clear H1)
          | (refine ldrowG arrFour _ rfl rfl _ rfl _ _ hg7 ?_)
          | (go_at_call 35; refine (H2.out _).mono ?_; rintro e w8 ⟨rfl, hc8⟩; obtain ⟨hb8, hg8⟩ := stepO hb7 hb7.size hg7 hc8)
          | (go_at_call 24; refine (hF2.out _).mono ?_; rintro e w' ⟨rfl, rfl⟩)
          | (go_at_call 36; refine (HRS.out _).mono ?_; rintro e w9 ⟨rfl, hc9⟩; obtain ⟨hb9, hg9⟩ := stepO hb8 hb8.size hg8 hc9)
          | (go_at_call 19; refine (HL.out _ hb9).mono ?_; rintro e w10 ⟨rfl, hc10⟩; obtain ⟨hb10, hg10⟩ := stepO hb9 hb9.size hg9 hc10))
        go_ret
        exact ⟨rfl, hb10⟩

theorem lawFig (f g : Int) (w : World) (L : Base w) :
    Calls Tryd.prog 6 #[.int .i64 f, .int .i64 g] w fun e w' => e = .returned (.bool true) ∧ Below w.heap.size w w' := by
  by_cases hf : Fig f
  · obtain ⟨a, rfl⟩ : ∃ a : Nat, f = a := ⟨f.toNat, by unfold Fig at hf; omega⟩
    have ha : a < 16 := by unfold Fig at hf; omega
    by_cases hg : Fig g
    · obtain ⟨b, rfl⟩ : ∃ b : Nat, g = b := ⟨g.toNat, by unfold Fig at hg; omega⟩
      have hb : b < 16 := by unfold Fig at hg; omega
      exact lawFig_yes a ha b _ 0 (fun W => sum_yes a b ha hb W) (.inr ⟨hg, rfl, fun W => rSum a b ha hb W⟩) w L
    · exact lawFig_yes a ha g 0 2 (fun W => sum_no a g (fun h => hg h.2) W) (.inl ⟨hg, rfl, rfl⟩) w L
  · exact lawFig_no f g hf w L
end Go.Proofs.YtphnibllfpkkkaaDoor
