/- Walks of package house: a tie is added; ties are compared. -/
import Derived.Test.YtcdbkgpgjjeoiaaDoorHW6
import Derived.Test.YtcdbkgpgjjeoiaaDoorQD
import Derived.Test.YtcdbkgpgjjeoiaaDoorRF
import Derived.TacticsInMore
import Derived.OwnWalkIn
import Derived.Deep.QuietTactic
import Derived.Test.YtcdbkgpgjjeoiaaDoorHL
import Derived.Test.YtcdbkgpgjjeoiaaDoorHW4
namespace Go.Proofs.YtcdbkgpgjjeoiaaDoor
open Go Go.RowKit
set_option maxRecDepth 100000
set_option linter.unusedSimpArgs false
set_option linter.unusedVariables false

/-- What an append to the ties in box bl keeps: all blocks but the box and rows of ties. -/
structure KeepT (T : TypeId) (bl : Nat) (w w' : World) : Prop where
  os : w'.os = w.os
  tape : w'.tape = w.tape
  output : w'.output = w.output
  size : w.heap.size ≤ w'.heap.size
  block : ∀ b o, w.heap[b]? = some o → b ≠ bl → (∀ cs, o ≠ .cells cs T (0, 0)) → w'.heap[b]? = some o
theorem KeepT.refl (T : TypeId) (bl : Nat) (w : World) : KeepT T bl w w := ⟨rfl, rfl, rfl, Nat.le_refl _, fun _ _ h _ _ => h⟩
theorem KeepT.trans {T : TypeId} {bl : Nat} {A B C : World} (h : KeepT T bl A B) (k : KeepT T bl B C) : KeepT T bl A C :=
  ⟨k.os.trans h.os, k.tape.trans h.tape, k.output.trans h.output, Nat.le_trans h.size k.size, fun b o ho hb hc => k.block b o (h.block b o ho hb hc) hb hc⟩
theorem KeepT.below {T : TypeId} {bl : Nat} {w w' : World} (h : Below w.heap.size w w') : KeepT T bl w w' := ⟨h.os, h.tape, h.output, h.size, fun b _ ho _ _ => (h.block b (heap_lt ho)).trans ho⟩
theorem KeepT.set (T : TypeId) (bl : Nat) (w : World) (v : Value) : KeepT T bl w (w.setCell ⟨bl, 0, none⟩ v) := ⟨rfl, rfl, rfl, by simp, fun b _ ho hb _ => (heap_setCell_other w ⟨bl, 0, none⟩ b v hb).trans ho⟩
theorem KeepT.put {T : TypeId} {bl l : Nat} (w : World) {o : Obj} (o' : Obj) (hl : w.heap[l]? = some o) (hc : o.isCells = false) (h : ∀ b x, w.heap[b]? = some x → b ≠ bl → (∀ cs, x ≠ .cells cs T (0, 0)) → b ≠ l) : KeepT T bl w (w.putObj l o') := ⟨rfl, rfl, rfl, by simp, fun b x ho hb hx => (World.putObj_heap_other (h b x ho hb hx)).trans ho⟩
theorem KeepT.grown {T : TypeId} {bl B : Nat} {w w' : World} {v : Value} {ts : List Tie3} (hg : w.grownBy w' v.ownBlock) (h : Trs T w B v ts) : KeepT T bl w w' := by
  refine ⟨hg.os, hg.tape, hg.output, hg.size, fun b o ho hb hx => (hg.block b (heap_lt ho) fun e => ?_).trans ho⟩
  rcases h.2 with ⟨h2, _⟩ | ⟨g, cap, cur, h3, _, h5, _⟩
  · rw [h2] at e; cases e
  · rw [h3] at e
    cases e
    rw [h5] at ho
    exact hx cur (by cases ho; rfl)
theorem cells3_enc (k x y : Nat) (x1 y1 : Nat) (hx : x + 1 = x1) (hy : y + 1 = y1) : enc3 (k, x, y) = [.int .i64 ((k : Nat) : Int), .int .i64 ((x1 : Nat) : Int), .int .i64 ((y1 : Nat) : Int)] := by subst hx; subst hy; rfl

theorem trs_set {T : TypeId} {w : World} {B : Nat} {v : Value} {ts : List Tie3} (h : Trs T w B v ts) {g i : Nat} (hg : g < B) (u : Value) : Trs T (w.setCell ⟨g, i, none⟩ u) B v ts := by
  refine ⟨h.1, ?_⟩
  rcases h.2 with h2 | ⟨b, cap, cur, h3, h4, h5, h6⟩
  · exact .inl h2
  · exact .inr ⟨b, cap, cur, h3, h4, (heap_setCell_other w ⟨g, i, none⟩ b u (show b ≠ g by omega)).trans h5, h6⟩
set_option maxHeartbeats 800000 in
theorem add_c (k x y : Nat) (hx : x < 1000) (hy : y < 1000) (bl base : Nat) (v : Value) (ts : List Tie3) (hts : ts.length < 100000) (w : World) (hB : Boxed w bl 45 v) (hbl : bl < base) (hbase : base ≤ w.heap.size) (hT : Trs 53 w base v ts) :
    Calls Tryd.prog 73 #[.int .i64 ((k : Nat) : Int), .int .i64 ((x : Nat) : Int), .int .i64 ((y : Nat) : Int), .pointer (some ⟨bl, 0, none⟩)] w fun e w' => (∃ u, e = .returned u) ∧
      (∃ v', Boxed w' bl 45 v' ∧ Trs 53 w' base v' (ts ++ [(k, x, y)])) ∧ Below bl w w' ∧ KeepT 53 bl w w' := by
  have HX := hid (fun W => house_c x (by omega) W)
  have HY := hid (fun W => house_c y (by omega) W)
  obtain ⟨x1, hx1⟩ : ∃ x1, x + 1 = x1 := ⟨_, rfl⟩
  obtain ⟨y1, hy1⟩ : ∃ y1, y + 1 = y1 := ⟨_, rfl⟩
  have HE := hid (cells3_enc k x y x1 y1 hx1 hy1)
  rw [hx1] at HX
  rw [hy1] at HY
  have hc0 := hB.cell
  have HB1 := hid (show Boxed (w.drew.alloc (.cells #[.int .i64 ((k : Nat) : Int), .int .i64 ((x1 : Nat) : Int), .int .i64 ((y1 : Nat) : Int)] 53)) bl 45 v from Boxed.alloc (W := w.drew) hB _)
  have HT1 := hid (show Trs 53 (w.drew.alloc (.cells #[.int .i64 ((k : Nat) : Int), .int .i64 ((x1 : Nat) : Int), .int .i64 ((y1 : Nat) : Int)] 53)) base v ts from World.ownsRow.alloc (w := w.drew) hT _)
  have HC1 := hid (tri_new (k, x, y) w.drew 53 _ HE.out)
  have HBel := hid (show Below w.heap.size w (w.drew.alloc (.cells #[.int .i64 ((k : Nat) : Int), .int .i64 ((x1 : Nat) : Int), .int .i64 ((y1 : Nat) : Int)] 53)) from (below_drew (Below.refl w.heap.size w)).alloc (Nat.le_refl _) _)
  clear hx hy hx1 hy1
  go_enter Tryd.func73, Tryd.ntmps73
  go_wp2_with fail
  refine wp_region_noPanic ?_
  refine region_any (by kernel_rfl) ?_
  refine takeW (i := 1) (.int .i64 ((k : Nat) : Int)) (d := some 8) rfl (by kernel_rfl) (by kernel_rfl) (by kernel_rfl) (fun _ _ _ h => h) rfl (fun W => by rfl) rfl ?_
  simp only [Act.put, List.setIfInBounds_toArray, List.set_cons_zero, List.set_cons_succ]
  refine takeW (i := 2) (.int .i64 ((x : Nat) : Int)) (d := some 9) rfl (by kernel_rfl) (by kernel_rfl) (by kernel_rfl) (fun _ _ _ h => h) rfl (fun W => by rfl) rfl ?_
  simp only [Act.put, List.setIfInBounds_toArray, List.set_cons_zero, List.set_cons_succ]
  refine takeW (i := 4) (.int .i64 ((y : Nat) : Int)) (d := some 11) rfl (by kernel_rfl) (by kernel_rfl) (by kernel_rfl) (fun _ _ _ h => h) rfl (fun W => by rfl) rfl ?_
  simp only [Act.put, List.setIfInBounds_toArray, List.set_cons_zero, List.set_cons_succ]
  refine takeS (fun W => W.cell? ⟨bl, 0, none⟩ = some v) (i := 0) (v) (d := some 7) rfl (by kernel_rfl) (by kernel_rfl) (by kernel_rfl) (fun _ _ _ h => h) rfl (fun W hSw => by go_simp) (hc0) rfl ?_
  simp only [Act.put, List.setIfInBounds_toArray, List.set_cons_zero, List.set_cons_succ]
  refine stepD 3 (by kernel_rfl) rfl rfl (fun K hK => ?_)
  go_simp
  go_at_call 50
  refine (HX.out _).mono ?_
  rintro e w' ⟨rfl, rfl⟩
  go_simp
  refine hK _ _ (fun _ => hc0) ?_
  clear hK K
  refine stepD 5 (by kernel_rfl) rfl rfl (fun K hK => ?_)
  go_simp
  go_at_call 50
  refine (HY.out _).mono ?_
  rintro e w' ⟨rfl, rfl⟩
  go_simp
  refine hK _ _ (fun _ => hc0) ?_
  clear hK K
  refine stepD 6 (by kernel_rfl) rfl rfl (fun K hK => ?_)
  go_simp
  refine hK _ _ (fun _ => hc0) ?_
  clear hK K
  refine stepD 7 (by kernel_rfl) rfl rfl (fun K hK => ?_)
  go_simp
  refine hK _ _ (fun _ => HB1.out.cell) ?_
  clear hK K
  refine stepD 8 (by kernel_rfl) rfl rfl (fun K hK => ?_)
  refine wpO_append_tri triTie Tryd.underlying45 _ _ rfl base v ts rfl HT1.out (k, x, y) w.heap.size 1 rfl HC1.out (by omega) (by simp; omega) ?_
  intro v2 w2 hT2 hg2
  simp only [Act.put, List.setIfInBounds_toArray, List.set_cons_zero, List.set_cons_succ]
  refine hK _ _ (notD (by kernel_rfl)) ?_
  clear hK K
  have hB2 := HB1.out.kept hg2 (HB1.out.not_row (by decide) HT1.out)
  have hfz := hB2.frozen
  have hcl := hB2.cell
  obtain ⟨q2, c2, e2⟩ := hT2.form
  generalize (ts ++ [(k, x, y)]).length = m2 at e2
  have hS3 := hB2.set v2
  have hKT := (KeepT.below HBel.out).trans (KeepT.grown (bl := bl) hg2 HT1.out)
  have hbel := (HBel.out.mono (show bl ≤ w.heap.size by omega)).grown hg2 (by simp; omega) (fun j e => by have := (World.ownsRow.lt HT1.out j e).1; omega)
  have HKT := hid (hKT.trans (KeepT.set _ bl w2 v2))
  have HBL := hid (hbel.setCell (p := ⟨bl, 0, none⟩) (Nat.le_refl _) v2)
  have HT3 := hid (trs_set (i := 0) hT2 hbl v2)
  have HS3 := hid hS3
  clear hKT hbel hT2 hS3 HB1 HT1 HC1 HBel hg2 hB2
  subst e2
  refine stepD 9 (by kernel_rfl) rfl rfl (fun K hK => ?_)
  go_simp
  refine hK _ _ (notD (by kernel_rfl)) ?_
  clear hK K
  refine doneD (by kernel_rfl) ?_ _
  refine NoPanic.normal ?_
  go_end0
  exact ⟨⟨_, rfl⟩, ⟨_, HS3.out, HT3.out⟩, HBL.out, HKT.out⟩
end Go.Proofs.YtcdbkgpgjjeoiaaDoor
/- Walks of package house: ties are compared, and sorted. -/
namespace Go.Proofs.YtcdbkgpgjjeoiaaDoor
open Go Go.RowKit Go.Sort
set_option maxRecDepth 100000
set_option linter.unusedSimpArgs false
set_option linter.unusedVariables false

theorem compareK_c (a b : Nat) (w : World) : Calls Tryd.prog 78 #[.int .i64 ((a : Nat) : Int), .int .i64 ((b : Nat) : Int)] w fun e w' => e = .returned (.int .i64 (cmpN a b)) ∧ w = w' := by
  unfold cmpN
  by_cases h1 : a < b
  · rw [if_pos h1]
    have e1 : decide (((a : Nat) : Int) < ((b : Nat) : Int)) = true := by simp; omega
    go_enter Tryd.func78, Tryd.ntmps78
    go_wp2
    all_goals
      go_ret
      exact ⟨rfl, rfl⟩
  · rw [if_neg h1]
    have e1 : decide (((a : Nat) : Int) < ((b : Nat) : Int)) = false := by simp; omega
    by_cases h2 : b < a
    · rw [if_pos h2]
      have e2 : decide (((b : Nat) : Int) < ((a : Nat) : Int)) = true := by simp; omega
      go_enter Tryd.func78, Tryd.ntmps78
      go_wp2
      all_goals
        go_ret
        exact ⟨rfl, rfl⟩
    · rw [if_neg h2]
      have e2 : decide (((b : Nat) : Int) < ((a : Nat) : Int)) = false := by simp; omega
      go_enter Tryd.func78, Tryd.ntmps78
      go_wp2
      all_goals
        go_ret
        exact ⟨rfl, rfl⟩
theorem compareI_c (a b : Nat) (w : World) : Calls Tryd.prog 79 #[.int .i64 ((a : Nat) : Int), .int .i64 ((b : Nat) : Int)] w fun e w' => e = .returned (.int .i64 (cmpN a b)) ∧ w = w' := by
  unfold cmpN
  by_cases h1 : a < b
  · rw [if_pos h1]
    have e1 : decide (((a : Nat) : Int) < ((b : Nat) : Int)) = true := by simp; omega
    go_enter Tryd.func79, Tryd.ntmps79
    go_wp2
    all_goals
      go_ret
      exact ⟨rfl, rfl⟩
  · rw [if_neg h1]
    have e1 : decide (((a : Nat) : Int) < ((b : Nat) : Int)) = false := by simp; omega
    by_cases h2 : b < a
    · rw [if_pos h2]
      have e2 : decide (((b : Nat) : Int) < ((a : Nat) : Int)) = true := by simp; omega
      go_enter Tryd.func79, Tryd.ntmps79
      go_wp2
      all_goals
        go_ret
        exact ⟨rfl, rfl⟩
    · rw [if_neg h2]
      have e2 : decide (((b : Nat) : Int) < ((a : Nat) : Int)) = false := by simp; omega
      go_enter Tryd.func79, Tryd.ntmps79
      go_wp2
      all_goals
        go_ret
        exact ⟨rfl, rfl⟩
/-- cmp.Or of three ints: the first that is not 0. -/
theorem orAt_c (S : Nat → Int) (j : Nat) (hj : j ≤ 3) (g : Nat) (w : World) (hc : ∀ i, i < 3 → w.cell? ⟨g, i, none⟩ = some (.int .i64 (S i))) (hz : ∀ i, i < j → S i = 0) (hn : j < 3 → S j ≠ 0) :
    Calls Tryd.prog 77 #[.slice (some ⟨g, 0, none⟩) 3 3] w fun e w' => e = .returned (.int .i64 (if j < 3 then S j else 0)) ∧ w = w' := by
  have HC := hid hc
  have HZ := hid hz
  have HN := hid hn
  clear hc hz hn
  go_enter Tryd.func77, Tryd.ntmps77
  go_wp2
  go_loop [8] (fun i => ∃ k : Nat, k ≤ j ∧ i = .int .i64 k) (fun i => 3 - (intOf i).toNat)
  case atStart => exact ⟨0, Nat.zero_le _, rfl⟩
  case round =>
    obtain ⟨k, hk, rfl⟩ := hrel
    by_cases hlt : k < 3
    · have hlt' : ((k : Nat) : Int) < 3 := by omega
      have hcell := HC.out k hlt
      by_cases hkj : k < j
      · have h0 := HZ.out k hkj
        rw [h0] at hcell
        go_wp2
        go_round
        case rel => exact ⟨k + 1, by omega, by go_num⟩
        case measure => simp [intOf]; omega
      · obtain rfl : k = j := by omega
        have h0 := HN.out hlt
        have hb : (S k != 0) = true := by simp; exact h0
        have HR := hid (show (if k < 3 then S k else 0) = S k from if_pos hlt)
        clear h0
        go_wp2
        go_ret
        exact ⟨by first | rfl | (rw [HR.out]; rfl), rfl⟩
    · have hge : ¬ ((k : Nat) : Int) < 3 := by omega
      have HR := hid (show (if j < 3 then S j else 0) = 0 from if_neg (by omega))
      go_wp2
      go_ret
      exact ⟨by first | rfl | (rw [HR.out]; rfl), rfl⟩
theorem or_c (x y z : Int) (g : Nat) (w : World) (h0 : w.cell? ⟨g, 0, none⟩ = some (.int .i64 x)) (h1 : w.cell? ⟨g, 1, none⟩ = some (.int .i64 y)) (h2 : w.cell? ⟨g, 2, none⟩ = some (.int .i64 z)) :
    Calls Tryd.prog 77 #[.slice (some ⟨g, 0, none⟩) 3 3] w fun e w' => e = .returned (.int .i64 (or3 x y z)) ∧ w = w' := by
  have hS : ∀ i, i < 3 → w.cell? ⟨g, i, none⟩ = some (.int .i64 ((fun i => if i = 0 then x else if i = 1 then y else z) i)) := by
    intro i hi
    have : i = 0 ∨ i = 1 ∨ i = 2 := by omega
    rcases this with rfl | rfl | rfl
    · exact h0
    · exact h1
    · exact h2
  unfold or3
  by_cases a : x = 0
  · by_cases b : y = 0
    · by_cases c : z = 0
      · refine (orAt_c _ 3 (Nat.le_refl _) g w hS (fun i hi => ?_) (fun h => absurd h (by omega))).mono ?_
        · have : i = 0 ∨ i = 1 ∨ i = 2 := by omega
          rcases this with rfl | rfl | rfl <;> simp [a, b, c]
        · rintro e w' ⟨rfl, rfl⟩
          exact ⟨by simp [a, b, c], rfl⟩
      · refine (orAt_c _ 2 (by omega) g w hS (fun i hi => ?_) (fun _ => by simpa using c)).mono ?_
        · have : i = 0 ∨ i = 1 := by omega
          rcases this with rfl | rfl <;> simp [a, b]
        · rintro e w' ⟨rfl, rfl⟩
          exact ⟨by simp [a, b], rfl⟩
    · refine (orAt_c _ 1 (by omega) g w hS (fun i hi => ?_) (fun _ => by simpa using b)).mono ?_
      · obtain rfl : i = 0 := by omega
        simp [a]
      · rintro e w' ⟨rfl, rfl⟩
        exact ⟨by simp [a, b], rfl⟩
  · refine (orAt_c _ 0 (by omega) g w hS (fun i hi => absurd hi (by omega)) (fun _ => by simpa using a)).mono ?_
    rintro e w' ⟨rfl, rfl⟩
    exact ⟨by simp [a], rfl⟩
set_option maxHeartbeats 1000000 in
theorem cmpT_c (s t : Tie3) (w : World) : Calls Tryd.prog 76 #[.agg (enc3 s).toArray, .agg (enc3 t).toArray] w fun e w' => e = .returned (.int .i64 (cfT s t)) ∧ ∃ q os', w' = grow (w.drewN q) os' := by
  obtain ⟨x0, a1, a2⟩ := s
  obtain ⟨y0, b1, b2⟩ := t
  have hcf : cfT (x0, a1, a2) (y0, b1, b2) = or3 (cmpN x0 y0) (cmpN (a1 + 1) (b1 + 1)) (cmpN (a2 + 1) (b2 + 1)) := by
    unfold cfT cmpN
    simp
  rw [hcf]
  show Calls _ _ #[.agg #[.int .i64 ((x0 : Nat) : Int), .int .i64 ((a1 + 1 : Nat) : Int), .int .i64 ((a2 + 1 : Nat) : Int)], .agg #[.int .i64 ((y0 : Nat) : Int), .int .i64 ((b1 + 1 : Nat) : Int), .int .i64 ((b2 + 1 : Nat) : Int)]] _ _
  clear hcf
  generalize a1 + 1 = x1
  generalize a2 + 1 = x2
  generalize b1 + 1 = y1
  generalize b2 + 1 = y2
  have C0 := hid (fun W => compareK_c x0 y0 W)
  have C1 := hid (fun W => compareI_c x1 y1 W)
  have C2 := hid (fun W => compareI_c x2 y2 W)
  generalize cmpN x0 y0 = c0 at *
  generalize cmpN x1 y1 = c1 at *
  generalize cmpN x2 y2 = c2 at *
  have hgr : ∀ os, ∃ q os', ((w.alloc (.cells #[.int .i64 ((x0 : Nat) : Int), .int .i64 ((x1 : Nat) : Int), .int .i64 ((x2 : Nat) : Int)] 53)).alloc (.cells #[.int .i64 ((y0 : Nat) : Int), .int .i64 ((y1 : Nat) : Int), .int .i64 ((y2 : Nat) : Int)] 53)).drew.alloc os = grow (w.drewN q) os' := fun os => ⟨1, _, by rw [alloc_eq_grow, alloc_eq_grow, alloc_eq_grow, grow_grow]; exact grow_grow (w.drewN 1) _ _⟩
  have h0 := heap_alloc2_old w (.cells #[.int .i64 ((x0 : Nat) : Int), .int .i64 ((x1 : Nat) : Int), .int .i64 ((x2 : Nat) : Int)] 53) (.cells #[.int .i64 ((y0 : Nat) : Int), .int .i64 ((y1 : Nat) : Int), .int .i64 ((y2 : Nat) : Int)] 53)
  have h1 := heap_alloc2_new w (.cells #[.int .i64 ((x0 : Nat) : Int), .int .i64 ((x1 : Nat) : Int), .int .i64 ((x2 : Nat) : Int)] 53) (.cells #[.int .i64 ((y0 : Nat) : Int), .int .i64 ((y1 : Nat) : Int), .int .i64 ((y2 : Nat) : Int)] 53)
  go_enter Tryd.func76, Tryd.ntmps76
  go_wp2_with fail
  have HG := hid hgr
  clear hgr
  generalize (w.alloc (.cells #[.int .i64 ((x0 : Nat) : Int), .int .i64 ((x1 : Nat) : Int), .int .i64 ((x2 : Nat) : Int)] 53)).alloc (.cells #[.int .i64 ((y0 : Nat) : Int), .int .i64 ((y1 : Nat) : Int), .int .i64 ((y2 : Nat) : Int)] 53) = w1 at *
  generalize w.heap.size = g at *
  have Hx0 := hid (show w1.cell? ⟨g, 0, none⟩ = some (.int .i64 ((x0 : Nat) : Int)) by rw [cell_of_row _ _ 0 _ _ (0, 0) h0]; rfl)
  have Hx1 := hid (show w1.cell? ⟨g, 1, none⟩ = some (.int .i64 ((x1 : Nat) : Int)) by rw [cell_of_row _ _ 1 _ _ (0, 0) h0]; rfl)
  have Hx2 := hid (show w1.cell? ⟨g, 2, none⟩ = some (.int .i64 ((x2 : Nat) : Int)) by rw [cell_of_row _ _ 2 _ _ (0, 0) h0]; rfl)
  have Hy0 := hid (show w1.cell? ⟨g + 1, 0, none⟩ = some (.int .i64 ((y0 : Nat) : Int)) by rw [cell_of_row _ _ 0 _ _ (0, 0) h1]; rfl)
  have Hy1 := hid (show w1.cell? ⟨g + 1, 1, none⟩ = some (.int .i64 ((y1 : Nat) : Int)) by rw [cell_of_row _ _ 1 _ _ (0, 0) h1]; rfl)
  have Hy2 := hid (show w1.cell? ⟨g + 1, 2, none⟩ = some (.int .i64 ((y2 : Nat) : Int)) by rw [cell_of_row _ _ 2 _ _ (0, 0) h1]; rfl)
  clear h0 h1
  refine wpIn_wide.1 (wpIn_quiet_tail (m := 1) lets_wide 15 (by kernel_rfl) (by kernel_rfl) (by kernel_rfl) (fun W => W = w1.drew) (rfl) ?_)
  simp only [List.take_succ_cons, List.take_zero, List.drop_succ_cons, List.drop_zero]
  refine qvalK (.pointer (some ⟨g, 0, none⟩)) rfl (fun W hW => by go_simp) (fun K hK => ?_)
  go_simp
  refine hK _ ?_
  clear hK K
  refine qvalK (.int .i64 ((x0 : Nat) : Int)) rfl (fun W hW => by subst hW; have hc := Hx0.out; go_simp) (fun K hK => ?_)
  go_simp
  refine hK _ ?_
  clear hK K
  refine qvalK (.pointer (some ⟨g + 1, 0, none⟩)) rfl (fun W hW => by go_simp) (fun K hK => ?_)
  go_simp
  refine hK _ ?_
  clear hK K
  refine qvalK (.int .i64 ((y0 : Nat) : Int)) rfl (fun W hW => by subst hW; have hc := Hy0.out; go_simp) (fun K hK => ?_)
  go_simp
  refine hK _ ?_
  clear hK K
  refine qcallK (.int .i64 c0) 78 #[.int .i64 ((x0 : Nat) : Int), .int .i64 ((y0 : Nat) : Int)] rfl (fun W => by kernel_rfl) (fun W hW => by subst hW; exact (C0.out _).mono fun _ _ h => ⟨h.1, h.2.symm⟩) (fun K hK => ?_)
  go_simp
  refine hK _ ?_
  clear hK K
  refine qvalK (.pointer (some ⟨g, 1, none⟩)) rfl (fun W hW => by go_simp) (fun K hK => ?_)
  go_simp
  refine hK _ ?_
  clear hK K
  refine qvalK (.int .i64 ((x1 : Nat) : Int)) rfl (fun W hW => by subst hW; have hc := Hx1.out; go_simp) (fun K hK => ?_)
  go_simp
  refine hK _ ?_
  clear hK K
  refine qvalK (.pointer (some ⟨g + 1, 1, none⟩)) rfl (fun W hW => by go_simp) (fun K hK => ?_)
  go_simp
  refine hK _ ?_
  clear hK K
  refine qvalK (.int .i64 ((y1 : Nat) : Int)) rfl (fun W hW => by subst hW; have hc := Hy1.out; go_simp) (fun K hK => ?_)
  go_simp
  refine hK _ ?_
  clear hK K
  refine qcallK (.int .i64 c1) 79 #[.int .i64 ((x1 : Nat) : Int), .int .i64 ((y1 : Nat) : Int)] rfl (fun W => by kernel_rfl) (fun W hW => by subst hW; exact (C1.out _).mono fun _ _ h => ⟨h.1, h.2.symm⟩) (fun K hK => ?_)
  go_simp
  refine hK _ ?_
  clear hK K
  refine qvalK (.pointer (some ⟨g, 2, none⟩)) rfl (fun W hW => by go_simp) (fun K hK => ?_)
  go_simp
  refine hK _ ?_
  clear hK K
  refine qvalK (.int .i64 ((x2 : Nat) : Int)) rfl (fun W hW => by subst hW; have hc := Hx2.out; go_simp) (fun K hK => ?_)
  go_simp
  refine hK _ ?_
  clear hK K
  refine qvalK (.pointer (some ⟨g + 1, 2, none⟩)) rfl (fun W hW => by go_simp) (fun K hK => ?_)
  go_simp
  refine hK _ ?_
  clear hK K
  refine qvalK (.int .i64 ((y2 : Nat) : Int)) rfl (fun W hW => by subst hW; have hc := Hy2.out; go_simp) (fun K hK => ?_)
  go_simp
  refine hK _ ?_
  clear hK K
  refine qcallK (.int .i64 c2) 79 #[.int .i64 ((x2 : Nat) : Int), .int .i64 ((y2 : Nat) : Int)] rfl (fun W => by kernel_rfl) (fun W hW => by subst hW; exact (C2.out _).mono fun _ _ h => ⟨h.1, h.2.symm⟩) (fun K hK => ?_)
  go_simp
  refine hK _ ?_
  clear hK K
  refine wpQuiet_nil ?_
  intro W hW
  subst hW
  have hn := heap_alloc_new w1 (.cells #[.int .i64 c0, .int .i64 c1, .int .i64 c2] 3)
  have HO := hid (or_c c0 c1 c2 w1.heap.size (w1.alloc (.cells #[.int .i64 c0, .int .i64 c1, .int .i64 c2] 3)).drew (show (w1.alloc (.cells #[.int .i64 c0, .int .i64 c1, .int .i64 c2] 3)).cell? _ = _ by rw [cell_of_row _ _ 0 _ _ (0, 0) hn]; rfl) (show (w1.alloc (.cells #[.int .i64 c0, .int .i64 c1, .int .i64 c2] 3)).cell? _ = _ by rw [cell_of_row _ _ 1 _ _ (0, 0) hn]; rfl) (show (w1.alloc (.cells #[.int .i64 c0, .int .i64 c1, .int .i64 c2] 3)).cell? _ = _ by rw [cell_of_row _ _ 2 _ _ (0, 0) hn]; rfl))
  clear hn C0 C1 C2 Hx0 Hx1 Hx2 Hy0 Hy1 Hy2
  gi_wp2_with (gi_at_call 77; refine (callsIn_wide.2 HO.out).mono ?_; rintro e w' ⟨rfl, rfl⟩)
  go_wp2_with fail
  go_ret
  exact ⟨rfl, HG.out _⟩
theorem flat_cells (ts : List Tie3) (t : Nat) (ht : t < ts.length * 3) : (cells3 ts)[t]? = some ((flatK enc3 3 ts.toArray)[t]!) := by
  have hd : t / 3 < ts.length := by omega
  have hm : t % 3 < 3 := Nat.mod_lt _ (by omega)
  rw [get_flatK enc3 3 ts.toArray t (by simpa using ht)]
  have h := cells3_get ts (t / 3) (t % 3) hd hm
  rw [show t / 3 * 3 + t % 3 = t by omega] at h
  rw [h]
  have e : ts.toArray[t / 3]! = ts[t / 3] := by simp [hd]
  rw [e]
  have hl : (enc3 ts[t / 3]).length = 3 := rfl
  simp [hl, hm]
theorem sortW_grown (w : World) (g n : Nat) (d : Array Tie3) (os : Array Obj) : w.grownBy (sortWorldK enc3 3 w g 0 n d os) (some g) := by
  refine ⟨rfl, rfl, rfl, by simp [sortWorldK, putRowK, putRow, mapBlock], fun k hk hne => ?_⟩
  unfold sortWorldK
  rw [heap_grow_old _ _ (by simpa [putRowK, putRow, mapBlock] using hk)]
  have : g ≠ k := fun e => hne (by rw [e])
  simp [putRowK, putRow, mapBlock, Sort.ahead, Array.getElem?_modify, this]
theorem sortT_c (ts : List Tie3) (base : Nat) (v : Value) (w : World) (hT : Trs 53 w base v ts) (hlen : ts.length < 100000) :
    Calls Tryd.prog 75 #[v, .func (.func 76) #[] #[]] w fun e w' => (∃ u, e = .returned u) ∧ ReadsT w' v (ts.mergeSort fun x y => !(ltOf cfT) y x) ∧ w.grownBy w' v.ownBlock := by
  rcases hT.2 with ⟨hv, hn⟩ | ⟨g, cap, cur, hv, hb, hg, hc1, hc2, hc3, hc4⟩
  · obtain rfl : ts = [] := List.eq_nil_of_length_eq_zero hn
    subst hv
    have hcon := AnyF.slices_SortFunc_none { sortTie with } none 0 (.func (.func 76) #[] #[]) w
    change Calls Tryd.prog 75 _ _ _ at hcon
    refine hcon.mono ?_
    rintro e w' ⟨rfl, rfl⟩
    exact ⟨⟨_, rfl⟩, .inl ⟨by simp, rfl⟩, World.grownBy.refl _ _⟩
  · subst hv
    have eg : ∀ args w, (callFunc 76 args).run Tryd.prog w = .ok (.enter 76 args) w := enters_of Tryd.func76 (by kernel_rfl) rfl
    have hcells : ∀ j, j < ts.length * 3 → w.cell? ⟨g, j, none⟩ = (cells3 ts)[j]? := fun j hj => by
      rw [cell_of_row _ _ j _ _ (0, 0) hg]
      have : (cur.toList.take (ts.length * 3))[j]? = (cells3 ts)[j]? := by rw [hc4]
      rw [List.getElem?_take, if_pos hj] at this
      rw [← Array.getElem?_toList, this]
    have hH : HoldsK enc3 3 w g 0 ts.toArray := fun j hj => by
      have hj' : j < ts.length * 3 := by simpa using hj
      rw [Nat.zero_add]
      exact ⟨by rw [hcells j hj']; exact flat_cells ts j hj', frozen_of_row _ _ j _ _ hg⟩
    have hcon := AnyQ.slices_SortFunc_total sortTie 3 Tryd.isAgg53 Tryd.sizeOf53 enc3 (fun _ => rfl) (fun x u hu => by
      unfold enc3 at hu
      simp only [List.mem_cons, List.not_mem_nil, or_false] at hu
      rcases hu with rfl | rfl | rfl <;> rfl) cfT swoT 76 #[] g 0 cap ts.toArray w eg (fun _ _ _ _ x y => cmpT_c x y _) hH (heap_lt hg) (by simp; omega) totT
    change Calls Tryd.prog 75 #[.slice (some ⟨g, 0, none⟩) ts.toArray.size cap, _] _ _ at hcon
    have e1 : ts.toArray.size = ts.length := by simp
    rw [e1] at hcon
    refine hcon.mono ?_
    rintro e w' ⟨rfl, n, os, rfl⟩
    refine ⟨⟨_, rfl⟩, .inr ⟨g, cap, by rw [List.length_mergeSort], ?_, fun j hj => ?_⟩, sortW_grown _ _ _ _ _⟩
    · have := (sortW_grown w g n (ts.toArray.toList.mergeSort fun x y => !(ltOf cfT) y x).toArray os).size
      have := heap_lt hg
      omega
    · rw [List.length_mergeSort] at hj
      have hK := holdsK_putRowK (enc := enc3) (k := 3) (Sort.ahead w n) g 0 ts.toArray (ts.toArray.toList.mergeSort fun x y => !(ltOf cfT) y x).toArray hH (by simp)
      have h2 := (hK j (by simpa using hj)).1
      rw [Nat.zero_add] at h2
      have h3 := flat_cells (ts.mergeSort fun x y => !(ltOf cfT) y x) j (by rw [List.length_mergeSort]; exact hj)
      rw [h3]
      unfold sortWorldK
      rw [World.cell?_of_block (w := putRowK enc3 3 (Sort.ahead w n) g 0 _) (heap_grow_old _ _ (by simpa [putRowK, putRow, mapBlock, Sort.ahead] using heap_lt hg)), h2]
      simp
end Go.Proofs.YtcdbkgpgjjeoiaaDoor
/- What holds while the ties are looked for. -/
namespace Go.Proofs.YtcdbkgpgjjeoiaaDoor
open Go Go.RowKit
set_option maxRecDepth 100000
set_option linter.unusedSimpArgs false
set_option linter.unusedVariables false

/-- The ties that were found so far are in box bl; the set that is gone through, in box b; all else is as in W0 and w. -/
structure St (T SL : TypeId) (g bl base b : Nat) (w W0 : World) (ts : List Tie3) (W : World) : Prop where
  keep : KeepT T bl W0 W
  l : ∃ v, Boxed W bl SL v ∧ Trs T W base v ts
  box : ∃ u, Boxed W b 113 u
  below : Below g w W
theorem trs_kept {T : TypeId} {W W' : World} {B : Nat} {v : Value} {ts : List Tie3} (h : Trs T W B v ts) (hk : ∀ (c : Nat) (cs : Array Value), W.heap[c]? = some (Obj.cells cs T (0, 0)) → W'.heap[c]? = some (Obj.cells cs T (0, 0))) : Trs T W' B v ts := by
  refine ⟨h.1, ?_⟩
  rcases h.2 with h2 | ⟨g, cap, cur, h3, h4, h5, h6⟩
  · exact .inl h2
  · exact .inr ⟨g, cap, cur, h3, h4, hk g cur h5, h6⟩
theorem grown_kept {W W' : World} {row : Option Nat} (hg : W.grownBy W' row) (hr : ∀ r, row = some r → ∃ o : Obj, W.heap[r]? = some o ∧ o.isCells = false) {c : Nat} {cs : Array Value} {t : TypeId} (h : W.heap[c]? = some (.cells cs t (0, 0))) : W'.heap[c]? = some (.cells cs t (0, 0)) := by
  refine (hg.block c (heap_lt h) fun e => ?_).trans h
  obtain ⟨o, ho, hc⟩ := hr c e.symm
  rw [h] at ho
  cases ho
  cases hc
theorem St.own {T SL : TypeId} {g bl base b : Nat} {w W0 : World} {f : List Nat → List Tie3} {B : Nat} (hB : W0.heap.size ≤ B) (hg : g ≤ B) (hw : g ≤ w.heap.size) : OwnFrom B (fun pre W => St T SL g bl base b w W0 (f pre) W) := fun pre W W' row h hgr hr => by
  have hr' : ∀ r, row = some r → ∃ o : Obj, W.heap[r]? = some o ∧ o.isCells = false := fun r e => (hr r e).2
  obtain ⟨v, hv1, hv2⟩ := h.l
  obtain ⟨u, hu⟩ := h.box
  have hk := h.keep
  refine ⟨⟨hgr.os.trans hk.os, hgr.tape.trans hk.tape, hgr.output.trans hk.output, Nat.le_trans hk.size hgr.size, fun c o ho hb hc => ?_⟩, ⟨v, grown_kept hgr hr' hv1, trs_kept hv2 fun c cs hc => grown_kept hgr hr' hc⟩, ⟨u, grown_kept hgr hr' hu⟩, h.below.grown hgr (Nat.le_trans hw h.below.size) fun k e => Nat.le_trans hg (hr k e).1⟩
  have h1 := hk.block c o ho hb hc
  refine (hgr.block c (heap_lt h1) fun e => ?_).trans h1
  have := (hr c e.symm).1
  have := heap_lt ho
  omega
/-- A store into the box of the set. -/
theorem St.setB {T SL : TypeId} {g bl base b : Nat} {w W0 W : World} {ts : List Tie3} (h : St T SL g bl base b w W0 ts W) (h0 : W0.heap.size ≤ b) (hb : b ≠ bl) (hg : g ≤ b) (hT : T ≠ 113) (v : Value) : St T SL g bl base b w W0 ts (W.setCell ⟨b, 0, none⟩ v) := by
  obtain ⟨x, hv1, hv2⟩ := h.l
  obtain ⟨u, hu⟩ := h.box
  have hk := h.keep
  refine ⟨⟨hk.os, hk.tape, hk.output, by simpa using hk.size, fun c o ho hc hx => ?_⟩, ⟨x, ?_, trs_kept hv2 fun c cs hc => ?_⟩, ⟨v, hu.set v⟩, h.below.setCell (p := ⟨b, 0, none⟩) hg v⟩
  · have h1 := hk.block c o ho hc hx
    have := heap_lt ho
    exact (heap_setCell_other W ⟨b, 0, none⟩ c v (show c ≠ b by omega)).trans h1
  · exact (heap_setCell_other W ⟨b, 0, none⟩ bl v (Ne.symm hb)).trans hv1
  · refine (heap_setCell_other W ⟨b, 0, none⟩ c v fun e => ?_).trans hc
    have e' : c = b := e
    subst e'
    rw [show W.heap[c]? = _ from hu] at hc
    injection hc with hc
    injection hc with _ hc
    exact hT hc.symm
/-- A block is laid. -/
theorem St.alloc {T SL : TypeId} {g bl base b : Nat} {w W0 W : World} {ts : List Tie3} (h : St T SL g bl base b w W0 ts W) (hw : g ≤ w.heap.size) (o : Obj) : St T SL g bl base b w W0 ts (W.alloc o) := by
  obtain ⟨x, hv1, hv2⟩ := h.l
  obtain ⟨u, hu⟩ := h.box
  exact ⟨h.keep.trans (KeepT.below ((Below.refl _ W).alloc (Nat.le_refl _) o)), ⟨x, hv1.alloc o, World.ownsRow.alloc hv2 o⟩, ⟨u, hu.alloc o⟩, h.below.alloc (Nat.le_trans hw h.below.size) o⟩
/-- A tie is added. -/
theorem St.add {T SL : TypeId} {g bl base b : Nat} {w W0 W W' : World} {ts ts' : List Tie3} (h : St T SL g bl base b w W0 ts W) (hbl : b ≠ bl) (hT : T ≠ 113) (hg : g ≤ bl) (hl : ∃ v', Boxed W' bl SL v' ∧ Trs T W' base v' ts') (hb : Below bl W W') (hk : KeepT T bl W W') : St T SL g bl base b w W0 ts' W' := by
  obtain ⟨u, hu⟩ := h.box
  refine ⟨h.keep.trans hk, hl, ⟨u, hk.block b _ hu hbl fun cs e => ?_⟩, h.below.trans (hb.mono hg)⟩
  injection e with _ e
  exact hT e.symm
/-- Worlds that differ below nothing. -/
theorem St.same {T SL : TypeId} {g bl base b : Nat} {w W0 W W' : World} {ts : List Tie3} (h : St T SL g bl base b w W0 ts W) (hw : g ≤ w.heap.size) (hb : Below W.heap.size W W') : St T SL g bl base b w W0 ts W' := by
  obtain ⟨x, hv1, hv2⟩ := h.l
  obtain ⟨u, hu⟩ := h.box
  exact ⟨h.keep.trans (KeepT.below hb), ⟨x, heap_below hb hv1 hv1.lt, hv2.below hb⟩, ⟨u, heap_below hb hu hu.lt⟩, h.below.trans (hb.mono (Nat.le_trans hw h.below.size))⟩
theorem KeepT.from {T : TypeId} {bl B : Nat} {W W' : World} (h : KeepT T bl W W') (hbl : bl < B) : KeepsFrom B W W' := ⟨h.size, fun k o hk ho hc => h.block k o ho (by omega) fun cs e => by subst e; cases hc⟩
theorem KeepT.keptB {T : TypeId} {bl b : Nat} {t : TypeId} {u : Value} {W W' : World} (h : KeepT T bl W W') (hbl : b ≠ bl) (hu : Boxed W b t u) (ht : T ≠ t) : KeptB b W W' := fun o ho _ => h.block b o ho hbl fun cs e => by
  rw [show W.heap[b]? = _ from hu] at ho
  injection ho with ho
  rw [← ho] at e
  injection e with _ e
  exact ht e.symm
theorem KeepT.boxed {T : TypeId} {bl b : Nat} {t : TypeId} {u : Value} {W W' : World} (h : KeepT T bl W W') (hbl : b ≠ bl) (hu : Boxed W b t u) (ht : T ≠ t) : Boxed W' b t u := h.keptB hbl hu ht _ hu rfl
theorem KeepT.row {T : TypeId} {bl b : Nat} {t : TypeId} {cs : Array Value} {W W' : World} (h : KeepT T bl W W') (hbl : b ≠ bl) (hu : W.heap[b]? = some (.cells cs t (0, 0))) (ht : T ≠ t) : W'.heap[b]? = some (.cells cs t (0, 0)) := h.block b _ hu hbl fun cs e => by
  injection e with _ e
  exact ht e.symm
/-- The marks of the ranges over functions, when the frame is left. -/
theorem leaves_marks {n : Nat} {fn : Func} {tmps : Array Value} {R : Ending → World → Prop} (g : Nat) : ∀ (Ds : List Nat) (W : World), Ds.Nodup → (∀ D ∈ Ds, W.heap[D]? = some (.deferred (some [])) ∧ g ≤ D) →
    (∀ W', Below g W W' → (∀ (b : Nat) (o : Obj), W.heap[b]? = some o → o.isCells = true → W'.heap[b]? = some o) → ∃ v, (results fn tmps).run Tryd.prog W' = .ok v W' ∧ R (.returned v) W') →
    LeavesInM Fence.wide n Tryd.prog fn tmps R (Ds.map fun D => { target := .collected D, args := #[] }) .returning W
  | [], W, _, _, h => by
    obtain ⟨v, h1, h2⟩ := h W (Below.refl _ _) (fun _ _ h _ => h)
    exact ⟨v, h1, h2⟩
  | D :: Ds, W, hnd, hD, h => by
    obtain ⟨hd, hgD⟩ := hD D (List.mem_cons_self)
    refine ⟨by simp, .inl ⟨_, _, rfl, run_takeDeferred hd, ?_⟩⟩
    have hb : Below g W (W.putObj D (.deferred none)) := ⟨rfl, rfl, rfl, by simp, fun k hk => World.putObj_heap_other (by omega)⟩
    refine leaves_marks g Ds _ (List.nodup_cons.1 hnd).2 (fun D' hD' => ⟨?_, (hD D' (List.mem_cons_of_mem _ hD')).2⟩) (fun W' hbW hc => h W' (hb.trans hbW) fun b o hcell hcs => hc b o ?_ hcs)
    · refine (World.putObj_heap_other ?_).trans (hD D' (List.mem_cons_of_mem _ hD')).1
      rintro rfl
      exact (List.nodup_cons.1 hnd).1 hD'
    · refine (World.putObj_heap_other ?_).trans hcell
      rintro rfl
      rw [hd] at hcell
      cases hcell
      cases hcs
/-- What lies while the ties are looked for. -/
structure Fs (h : Nat → Nat) (m a b g bb both : Nat) (fv : Value) (W : World) : Prop where
  sky : W.heap[g]? = some (.cells (sky h m) 109 (0, 0))
  bA : Boxed W (g + 1) 115 (.int .i64 ((a : Nat) : Int))
  bB : Boxed W (g + 1 + 1) 115 (.int .i64 ((b : Nat) : Int))
  bF : Boxed W (g + 1 + 1 + 1 + 1) 142 fv
  bO : Boxed W bb 113 (.int .u64 ((both : Nat) : Int))
  lt : g + 1 + 1 + 1 + 1 < bb
theorem Fs.keep {h : Nat → Nat} {m a b g bb both : Nat} {fv : Value} {W W' : World} (f : Fs h m a b g bb both fv W) (k : KeepT 53 (g + 1 + 1 + 1) W W') : Fs h m a b g bb both fv W' :=
  have := f.lt
  ⟨k.row (by omega) f.sky (by decide), k.boxed (by omega) f.bA (by decide), k.boxed (by omega) f.bB (by decide), k.boxed (by omega) f.bF (by decide), k.boxed (by omega) f.bO (by decide), f.lt⟩
/-- A sky is loaded: at one step of a region. -/
theorem exec_ldsky {h : Nat → Nat} {m g : Nat} {t : TypeId} {a : Act} {o : Oper} {x : Operand} {W : World} (ho : o.op = .load 109 x) (hx : a.eval x = .pointer (some ⟨g, 0, none⟩)) (hg : W.heap[g]? = some (.cells (sky h m) t (0, 0))) :
    (execOp a.eval o).run Tryd.prog W = .ok (.value (.agg (sky h m))) W := by
  have hrun := run_loadVar_row (P := Tryd.prog) W g t 109 (sky h m) (0, 0) _ hg Tryd.underlying109 rfl (by rw [sky_size]; kernel_rfl)
  simp only [execOp, ho, hx, Instr.loadAt, Instr.sureAddr, Sem.run_bind, Sem.run_pure, Result.andThen_ok, hrun]
/-- The sets that are gone through. -/
theorem set_conj (h : Nat → Nat) (a b : Nat) (ha : a < 12) : (onF h 12 (h a) &&& setN (fun i => nxt i b) 12) &&& (2 ^ 64 - (2 ^ a + 1)) = setN (fun x => h x == h a && nxt x b && x != a) 12 := by
  unfold onF
  rw [setN_and, setN_one a ha, setN_andn _ _ _ (by omega)]
  exact setN_congr fun i _ => by cases h1 : (h i == h a) <;> cases h2 : nxt i b <;> simp [bne]
theorem set_mut (h : Nat → Nat) (a b : Nat) : onF h 12 (h a) &&& (2 ^ 64 - (setN (fun x => x == a || x == b) 12 + 1)) = setN (fun x => h x == h a && x != a && x != b) 12 := by
  unfold onF
  rw [setN_andn _ _ _ (by omega)]
  exact setN_congr fun i _ => by cases h1 : (h i == h a) <;> cases h2 : (i == a) <;> cases h3 : (i == b) <;> simp [bne, h2, h3]
theorem set_mut2 (h : Nat → Nat) (a b x : Nat) : (onF h 12 (h b) &&& setN (fun i => nxt i x) 12) &&& (2 ^ 64 - (setN (fun x => x == a || x == b) 12 + 1)) = setN (fun y => h y == h b && nxt y x && y != a && y != b) 12 := by
  unfold onF
  rw [setN_and, setN_andn _ _ _ (by omega)]
  exact setN_congr fun i _ => by cases h1 : (h i == h b) <;> cases h4 : nxt i x <;> cases h2 : (i == a) <;> cases h3 : (i == b) <;> simp [bne, h2, h3]
theorem set_tra (a b : Nat) : setN (fun i => nxt i a) 12 &&& (2 ^ 64 - (setN (fun x => x == a || x == b) 12 + 1)) = setN (fun x => nxt x a && x != a && x != b) 12 := by
  rw [setN_andn _ _ _ (by omega)]
  exact setN_congr fun i _ => by cases h1 : nxt i a <;> cases h2 : (i == a) <;> cases h3 : (i == b) <;> simp [bne, h2, h3]
theorem set_tra2 (h : Nat → Nat) (a b x : Nat) (hx : x < 12) : ((onF h 12 (h x) &&& setN (fun i => nxt i b) 12) &&& (2 ^ 64 - (setN (fun x => x == a || x == b) 12 + 1))) &&& (2 ^ 64 - (2 ^ x + 1)) = setN (fun y => h y == h x && nxt y b && y != a && y != b && y != x) 12 := by
  unfold onF
  rw [setN_and, setN_andn _ _ _ (by omega), setN_one x hx, setN_andn _ _ _ (by omega)]
  exact setN_congr fun i _ => by cases h1 : (h i == h x) <;> cases h4 : nxt i b <;> cases h2 : (i == a) <;> cases h3 : (i == b) <;> cases h5 : (i == x) <;> simp [bne, h2, h3, h5]
theorem boxb {W W' : World} {B : Nat} {t : TypeId} {v : Value} (h : Boxed W B t v) (hb : Below W.heap.size W W') : Boxed W' B t v := heap_below hb h h.lt
theorem of_b (h : Nat → Nat) (hh : ∀ i, i < 12 → h i < 16) (m x : Nat) (hx : x < 12) (W : World) (hM : SkyM W m 12 (onF h 12)) : ∀ V, Below W.heap.size W V → Calls Tryd.prog 49 #[.agg (sky h m), .int .i64 ((x : Nat) : Int)] V fun e V' => e = .returned (.int .u64 ((onF h 12 (h x) : Nat) : Int)) ∧ Below W.heap.size W V' :=
  fun V hV => (of_c h hh m 12 (onF h 12) x hx V (hM.below hV hM.lt)).mono fun _ _ k => ⟨k.1, hV.trans (k.2.mono hV.size)⟩
theorem around_b (x : Nat) (hx : x < 12) (W : World) : ∀ V, Below W.heap.size W V → Calls Tryd.prog 74 #[.int .i64 ((x : Nat) : Int)] V fun e V' => e = .returned (.int .u64 ((setN (fun i => nxt i x) 12 : Nat) : Int)) ∧ Below W.heap.size W V' :=
  fun V hV => (around_c x hx V).mono fun _ _ ⟨h1, k, h2⟩ => ⟨h1, by rw [h2]; exact below_drewN hV k⟩
theorem onF_lt (h : Nat → Nat) (f : Nat) : onF h 12 f < 4096 := setN_lt12 _
theorem Fs.below {h : Nat → Nat} {m a b g bb both : Nat} {fv : Value} {W W' : World} (f : Fs h m a b g bb both fv W) (k : Below W.heap.size W W') : Fs h m a b g bb both fv W' := f.keep (KeepT.below k)
/-- The beginning of a range over a set. -/
theorem enter_all {T SL : TypeId} {g bl base b0 : Nat} {w V : World} {ts : List Tie3} {v : Value} (hb0 : V.heap.size = b0) (hg : g ≤ V.heap.size) (hB : Below g w V) (v1 : Boxed V bl SL v) (v2 : Trs T V base v ts) (u : Value) :
    St T SL g bl base b0 w V ts (V.alloc (.cells #[u] 113)) := by
  subst hb0
  have hV2 : Below V.heap.size V (V.alloc (.cells #[u] 113)) := (Below.refl _ V).alloc (Nat.le_refl _) _
  exact ⟨KeepT.below hV2, ⟨v, boxb v1 hV2, v2.below hV2⟩, ⟨u, Boxed.new V _ _⟩, hB.trans (hV2.mono hg)⟩
theorem list_snoc {α β : Type} (ts : List β) (pre : List α) (x : α) (f : α → β) : ts ++ (pre ++ [x]).map f = (ts ++ pre.map f) ++ [f x] := by simp
theorem tie1_len (h : Nat → Nat) (a b : Nat) : (tie1 h a b).length ≤ 1 := by unfold tie1; split <;> simp
theorem len_bits (p : Nat → Bool) : (bitsL p).length ≤ 12 := by
  unfold bitsL
  exact Nat.le_trans (List.length_filter_le _ _) (by simp)
theorem pre_bits {p : Nat → Bool} {Lst pre rest : List Nat} {x : Nat} (hL : Lst = bitsL p) (h : Lst = pre ++ x :: rest) : pre.length < 12 ∧ x < 12 ∧ p x = true := by
  have h1 := len_bits p
  rw [← hL, h] at h1
  simp at h1
  have hx : x ∈ bitsL p := by rw [← hL, h]; simp
  rw [mem_bitsL] at hx
  exact ⟨by omega, hx.1, hx.2⟩
theorem mark_keep {T : TypeId} {bl D : Nat} {W W' : World} (h : W.heap[D]? = some (Obj.deferred (some []))) (k : KeepT T bl W W') (hD : D ≠ bl) : W'.heap[D]? = some (Obj.deferred (some [])) := k.block D _ h hD fun cs e => by cases e
theorem flat_snoc {α β : Type} (ts : List β) (pre : List α) (x : α) (f : α → List β) : ts ++ (pre ++ [x]).flatMap f = (ts ++ pre.flatMap f) ++ f x := by simp
theorem flat_len {α β : Type} (f : α → List β) (c : Nat) (hf : ∀ x, (f x).length ≤ c) : ∀ pre : List α, (pre.flatMap f).length ≤ c * pre.length
  | [] => by simp
  | x :: pre => by
    have h1 := hf x
    have h2 := flat_len f c hf pre
    rw [List.flatMap_cons, List.length_append, List.length_cons, Nat.mul_succ]
    omega
theorem flen3 (h : Nat → Nat) (a b x : Nat) : ((bitsL fun y => h y == h b && nxt y x && y != a && y != b).map fun y => (3, x, y)).length ≤ 12 := by rw [List.length_map]; exact len_bits _
theorem flen4 (h : Nat → Nat) (a b x : Nat) : (if h x = h a ∨ h x = h b then [] else (bitsL fun y => h y == h x && nxt y b && y != a && y != b && y != x).map fun y => (4, x, y)).length ≤ 12 := by
  split
  · simp
  · rw [List.length_map]; exact len_bits _
theorem St.size {T SL : TypeId} {g bl base b : Nat} {w W0 W : World} {ts : List Tie3} (h : St T SL g bl base b w W0 ts W) : b < W.heap.size := by
  obtain ⟨u, hu⟩ := h.box
  exact hu.lt
theorem St.rebase {T SL : TypeId} {g bl base b : Nat} {w W0 W1 W : World} {ts : List Tie3} (h : St T SL g bl base b w W1 ts W) (k : KeepT T bl W0 W1) : St T SL g bl base b w W0 ts W := ⟨k.trans h.keep, h.l, h.box, h.below⟩
/-- Behind a range within a round: the state of the round's own range. -/
theorem St.outer {T SL : TypeId} {g bl base b c : Nat} {w W0 W W' : World} {ts ts' : List Tie3} (h : St T SL g bl base b w W0 ts W) (k : St T SL g bl base c w W ts' W') (hb : b ≠ bl) (hT : T ≠ 113) : St T SL g bl base b w W0 ts' W' := by
  obtain ⟨u, hu⟩ := h.box
  exact ⟨h.keep.trans k.keep, k.l, ⟨u, k.keep.boxed hb hu hT⟩, k.below⟩
theorem set_same {W : World} {B : Nat} {t : TypeId} {v : Value} (h : Boxed W B t v) (b : Nat) : (W.setCell ⟨B, 0, none⟩ v).heap[b]? = W.heap[b]? := by
  by_cases e : b = B
  · subst e
    rw [show (W.setCell ⟨b, 0, none⟩ v).heap[b]? = _ from h.set v, show W.heap[b]? = _ from h]
  · exact heap_setCell_other W ⟨B, 0, none⟩ b v e
theorem ReadsT.keep {w w' : World} {v : Value} {ts : List Tie3} (h : ReadsT w v ts) (hk : ∀ (b : Nat) (o : Obj), w.heap[b]? = some o → o.isCells = true → w'.heap[b]? = some o) (hs : w.heap.size ≤ w'.heap.size) : ReadsT w' v ts := by
  rcases h with h | ⟨g, c, h1, h2, h3⟩
  · exact .inl h
  · refine .inr ⟨g, c, h1, Nat.lt_of_lt_of_le h2 hs, fun j hj => ?_⟩
    have h4 := h3 j hj
    rw [← h4]
    have hsome : ∃ u, (cells3 ts)[j]? = some u := ⟨_, List.getElem?_eq_getElem (by rw [cells3_len]; exact hj)⟩
    obtain ⟨u, hu⟩ := hsome
    rw [hu] at h4
    cases ho : w.heap[g]? with
    | none => simp [World.cell?, ho] at h4
    | some o =>
      have hc : o.isCells = true := by
        cases o <;> simp [World.cell?, ho] at h4 <;> rfl
      simp only [World.cell?, hk g o ho hc, ho]
theorem results_slot {P : Program} {fn : Func} {p : Tmp} {ty : TypeId} (h : fn.results = #[.cell p ty]) (tmps : Array Value) (w : World) (g : Nat) (v : Value) (hp : tmps.getD p undef = .pointer (some ⟨g, 0, none⟩)) (hl : (loadVar ty ⟨g, 0, none⟩).run P w = .ok v w) : (results fn tmps).run P w = .ok v w := by
  have hp' : tmps[p]?.getD undef = .pointer (some ⟨g, 0, none⟩) := by simpa using hp
  simp [results, h, hp', asAddr, hl]
theorem load_ties {W : World} {B : Nat} {a : Option Addr} {n c : Nat} (h : Boxed W B 45 (.slice a n c)) : (loadVar 45 ⟨B, 0, none⟩).run Tryd.prog W = .ok (.slice a n c) W := by
  have hc := h.cell
  go_simp
end Go.Proofs.YtcdbkgpgjjeoiaaDoor
