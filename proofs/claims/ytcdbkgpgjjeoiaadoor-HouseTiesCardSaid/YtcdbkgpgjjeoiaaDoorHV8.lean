/- The law HouseTies. -/
import Derived.Test.YtcdbkgpgjjeoiaaDoorHRL
import Derived.Test.YtcdbkgpgjjeoiaaDoorHK
namespace Go.Proofs.YtcdbkgpgjjeoiaaDoor
open Go Go.RowKit
set_option maxRecDepth 100000
set_option linter.unusedSimpArgs false
set_option linter.unusedVariables false

/-- The error that is wanted: the houses valid, both numbers those of houses, both the same. -/
def wantE (q ba bb bs : Bool) : Int := if bs = false then 2 else if ba = false || bb = false then 3 else if q then 6 else 0
set_option maxHeartbeats 16000000 in
theorem ties_err (S : Nat → Int) (a b : Int) (q ba bb bs : Bool) (hq : (a == b) = q) (HHa' : ∀ W, Calls Tryd.prog 13 #[.int .i64 a] W fun e w' => e = .returned (.bool ba) ∧ W = w')
    (HHb' : ∀ W, Calls Tryd.prog 13 #[.int .i64 b] W fun e w' => e = .returned (.bool bb) ∧ W = w') (HHs' : ∀ W, Calls Tryd.prog 14 #[.agg (irow 12 S)] W fun e w' => e = .returned (.bool bs) ∧ Below W.heap.size W w')
    (hne : (wantE q ba bb bs != 0) = true) (HP : ∀ W, Calls Tryd.prog 54 #[.agg (irow 12 S), .int .i64 a, .int .i64 b] W fun e' w' => e' = .returned (.tuple #[.agg sky0, .int .i64 0, .int .i64 0, .int .i64 (wantE q ba bb bs)]) ∧ Below W.heap.size W w') (w : World) (LH : LaidH w) :
    Calls Tryd.prog 6 #[.agg (irow 12 S), .int .i64 a, .int .i64 b] w fun e w' => e = .returned (.bool true) ∧ Below w.heap.size w w' := by
  have HK := LH.known
  have HTi := hid (fun W => Ties_h_err S a b _ hne HP W)
  have HAs := hid (fun W => Aspects_h_err S a b _ hne HP W)
  have HJu := hid (fun W => Judge_h_err S a b _ hne HP W)
  have HLe := hid (fun W => Least_h_err S a b _ hne HP W)
  have HHa := hid HHa'
  have HHb := hid HHb'
  have HHs := hid HHs'
  have H0 := hid (heap_alloc_new w (.cells (irow 12 S) 24))
  have hB : Below w.heap.size w (w.alloc (.cells (irow 12 S) 24)) := (Below.refl _ _).alloc (Nat.le_refl _) _
  clear HP HHa' HHb' HHs' LH
  obtain ⟨g, hg⟩ : ∃ g, w.heap.size = g := ⟨_, rfl⟩
  cases q <;> cases ba <;> cases bb <;> cases bs
  all_goals try (exfalso; exact absurd hne (by decide))
  all_goals
    simp only [wantE, Bool.false_eq_true, Bool.true_eq_false, if_true, if_false, Bool.or_true, Bool.true_or, Bool.or_false, decide_true, decide_false] at HTi HAs HJu HLe
    clear hne
    go_enter Tryd.func6, Tryd.ntmps6
    go_wp2_with fail
    generalize w.alloc (.cells (irow 12 S) 24) = w1 at *
    rw [hg] at H0 hB HK
    go_wp2_with (first
      | (refine ldrow arrHouses _ rfl rfl _ rfl _ _ H0.out ?_)
      | (go_at_call 22; refine (HTi.out _).mono ?_; rintro e w2 ⟨rfl, hb⟩; have hsz := hB.size; have H0 := hid (heap_below hb H0.out (heap_lt H0.out)); have hB := hB.trans (hb.mono (by omega)))
      | (go_at_call 23; refine (HAs.out _).mono ?_; rintro e w3 ⟨rfl, hb⟩; have hsz := hB.size; have H0 := hid (heap_below hb H0.out (heap_lt H0.out)); have hB := hB.trans (hb.mono (by omega)))
      | (go_at_call 24; refine (HJu.out _).mono ?_; rintro e w4 ⟨rfl, hb⟩; have hsz := hB.size; have H0 := hid (heap_below hb H0.out (heap_lt H0.out)); have hB := hB.trans (hb.mono (by omega)))
      | (go_at_call 27; refine (HLe.out _).mono ?_; rintro e w5 ⟨rfl, hb⟩; have hsz := hB.size; have H0 := hid (heap_below hb H0.out (heap_lt H0.out)); have hB := hB.trans (hb.mono (by omega)))
      | (go_at_call_of 13 (Value.int .i64 a); refine (HHa.out _).mono ?_; rintro e w' ⟨rfl, rfl⟩)
      | (go_at_call_of 13 (Value.int .i64 b); refine (HHb.out _).mono ?_; rintro e w' ⟨rfl, rfl⟩)
      | (go_at_call 14; refine (HHs.out _).mono ?_; rintro e w6 ⟨rfl, hb⟩; have hsz := hB.size; have H0 := hid (heap_below hb H0.out (heap_lt H0.out)); have hB := hB.trans (hb.mono (by omega)))
      | (go_at_call 15; refine (HK.out _ hB).mono ?_; rintro e w7 ⟨rfl, hb⟩; have hsz := hB.size; have H0 := hid (heap_below hb H0.out (heap_lt H0.out)); have hB := hB.trans (hb.mono (by omega))))
    go_ret
    exact ⟨rfl, hg ▸ hB⟩
set_option maxHeartbeats 8000000 in
theorem ties_ok (h : Nat → Nat) (hh : ∀ i, i < 12 → h i < 16) (x y : Nat) (hx : x < 12) (hy : y < 12) (hxy : x ≠ y) (a b : Int) (ha : a = ((x : Nat) : Int) + 1) (hb' : b = ((y : Nat) : Int) + 1) (w : World) (LH : LaidH w) :
    Calls Tryd.prog 6 #[.agg (irow 12 (cst h)), .int .i64 a, .int .i64 b] w fun e w' => e = .returned (.bool true) ∧ Below w.heap.size w w' := by
  have HK := LH.known
  have HTi := hid (fun W (hW : Below w.heap.size w W) => Ties_h_ok h hh x y hx hy hxy a b ha hb' W (LH.B.below hW))
  have HAs := hid (fun W (hW : Below w.heap.size w W) => Aspects_h_ok h hh x y hx hy hxy a b ha hb' W (LH.B.below hW))
  have HJu := hid (fun W (hW : Below w.heap.size w W) => Judge_h_ok h hh x y hx hy hxy a b ha hb' W (LH.B.below hW))
  have HLe := hid (fun W (hW : Below w.heap.size w W) => Least_h_ok h hh x y hx hy hxy a b ha hb' W (LH.B.below hW))
  have HrT := hid (fun W => rTies h hh x y hx hy a b ha hb' W)
  have HrA := hid (fun W => rAspects h hh x y hx hy a b ha hb' W)
  have HrJ := hid (fun W => rJudge h hh x y hx hy a b ha hb' W)
  have HrL := hid (fun W => rLeast h hh x y hx hy a b ha hb' W)
  have hS : ∀ i, i < 12 → Fig (cst h i) := fun i hi => ⟨by simp, by have := hh i hi; simp; omega⟩
  have HHs := hid (fun W => rHouses_yes (cst h) hS W)
  have HHa := hid (fun W => rHouse_yes a (by unfold Hou; omega) W)
  have HHb := hid (fun W => rHouse_yes b (by unfold Hou; omega) W)
  have hq : (a == b) = false := by rw [ha, hb']; simp; omega
  have HL1 := hid (show (tiesR h x y).length ≤ 1000000 from by rw [← tS_4]; have := tS_len h x y 4 0 0 (by omega) (by omega) (by omega); omega)
  have HL2 := hid (show (aspR h x y).length ≤ 1000000 from by rw [← aS_12]; have := aS_len h x y 12; omega)
  generalize tiesR h x y = ts at *
  generalize aspR h x y = al at *
  generalize judgeN h x y = jj at *
  generalize lowN h x y 48 = lo at *
  generalize highN h x y 48 = hi at *
  have H0 := hid (heap_alloc_new w (.cells (irow 12 (cst h)) 24))
  have hB : Below w.heap.size w (w.alloc (.cells (irow 12 (cst h)) 24)) := (Below.refl _ _).alloc (Nat.le_refl _) _
  clear hS hh ha hb' hx hy hxy LH
  obtain ⟨g, hg⟩ : ∃ g, w.heap.size = g := ⟨_, rfl⟩
  go_enter Tryd.func6, Tryd.ntmps6
  go_wp2_with fail
  generalize w.alloc (.cells (irow 12 (cst h)) 24) = w1 at *
  rw [hg] at H0 hB HK HTi HAs HJu HLe
  go_wp2_with (first
    | (refine ldrow arrHouses _ rfl rfl _ rfl _ _ H0.out ?_)
    | (refine ldrowG arrHouses _ rfl rfl _ rfl _ _ H0.out ?_)
    | (go_at_call 22; refine (HTi.out _ hB).mono ?_; rintro e w2 ⟨⟨v1, rfl, hR1⟩, hb⟩; have hsz := hB.size; have H0 := hid (heap_below hb H0.out (heap_lt H0.out)); have hB := hB.trans (hb.mono (by omega)))
    | (go_at_call 23; refine (HAs.out _ hB).mono ?_; rintro e w3 ⟨⟨v2, rfl, hR2⟩, hb⟩; have hsz := hB.size; have H0 := hid (heap_below hb H0.out (heap_lt H0.out)); have hB := hB.trans (hb.mono (by omega)); have hR1 := hR1.below hb)
    | (go_at_call 24; refine (HJu.out _ hB).mono ?_; rintro e w4 ⟨rfl, hb⟩; have hsz := hB.size; have H0 := hid (heap_below hb H0.out (heap_lt H0.out)); have hB := hB.trans (hb.mono (by omega)); have hR1 := hR1.below hb; have hR2 := hR2.below hb)
    | (go_at_call 27; refine (HLe.out _ hB).mono ?_; rintro e w5 ⟨rfl, hb⟩; have hsz := hB.size; have H0 := hid (heap_below hb H0.out (heap_lt H0.out)); have hB := hB.trans (hb.mono (by omega)); have hR1 := hR1.below hb; have hR2 := hR2.below hb)
    | (go_at_call_of 13 (Value.int .i64 a); refine (HHa.out _).mono ?_; rintro e w' ⟨rfl, rfl⟩)
    | (go_at_call_of 13 (Value.int .i64 b); refine (HHb.out _).mono ?_; rintro e w' ⟨rfl, rfl⟩)
    | (go_at_call 14; refine (HHs.out _).mono ?_; rintro e w6 ⟨rfl, hb⟩; have hsz := hB.size; have H0 := hid (heap_below hb H0.out (heap_lt H0.out)); have hB := hB.trans (hb.mono (by omega)); have hR1 := hR1.below hb; have hR2 := hR2.below hb)
    | (go_at_call 28; refine (HrL.out _).mono ?_; rintro e w7 ⟨rfl, hb⟩; have hsz := hB.size; have H0 := hid (heap_below hb H0.out (heap_lt H0.out)); have hB := hB.trans (hb.mono (by omega)); have hR1 := hR1.below hb; have hR2 := hR2.below hb)
    | (go_at_call 30; refine (HrT.out _).mono ?_; rintro e w8 ⟨v3, rfl, hR3, hb⟩; have hsz := hB.size; have H0 := hid (heap_below hb H0.out (heap_lt H0.out)); have hB := hB.trans (hb.mono (by omega)); have hR1 := hR1.below hb; have hR2 := hR2.below hb)
    | (go_at_call 29; refine (sameT_c _ _ ts _ HL1.out hR1 hR3).mono ?_; rintro e w9 ⟨rfl, hb⟩; have hsz := hB.size; have H0 := hid (heap_below hb H0.out (heap_lt H0.out)); have hB := hB.trans (hb.mono (by omega)); have hR2 := hR2.below hb)
    | (go_at_call 32; refine (HrA.out _).mono ?_; rintro e w10 ⟨v4, rfl, hR4, hb⟩; have hsz := hB.size; have H0 := hid (heap_below hb H0.out (heap_lt H0.out)); have hB := hB.trans (hb.mono (by omega)); have hR2 := hR2.below hb)
    | (go_at_call 31; refine (sameA_c _ _ al _ HL2.out hR2 hR4).mono ?_; rintro e w11 ⟨rfl, hb⟩; have hsz := hB.size; have H0 := hid (heap_below hb H0.out (heap_lt H0.out)); have hB := hB.trans (hb.mono (by omega)))
    | (go_at_call 33; refine (HrJ.out _).mono ?_; rintro e w12 ⟨rfl, hb⟩; have hsz := hB.size; have H0 := hid (heap_below hb H0.out (heap_lt H0.out)); have hB := hB.trans (hb.mono (by omega)))
    | (go_at_call 15; refine (HK.out _ hB).mono ?_; rintro e w13 ⟨rfl, hb⟩; have hsz := hB.size; have H0 := hid (heap_below hb H0.out (heap_lt H0.out)); have hB := hB.trans (hb.mono (by omega))))
  go_ret
  exact ⟨rfl, hg ▸ hB⟩
theorem lawTies (S : Nat → Int) (a b : Int) (w : World) (LH : LaidH w) :
    Calls Tryd.prog 6 #[.agg (irow 12 S), .int .i64 a, .int .i64 b] w fun e w' => e = .returned (.bool true) ∧ Below w.heap.size w w' := by
  have hou : ∀ n : Int, ∃ c : Bool, (c = true ↔ Hou n) ∧ ∀ W, Calls Tryd.prog 13 #[.int .i64 n] W fun e w' => e = .returned (.bool c) ∧ W = w' := fun n => by
    by_cases h : Hou n
    · exact ⟨true, by simp [h], fun W => rHouse_yes n h W⟩
    · exact ⟨false, by simp [h], fun W => rHouse_no n h W⟩
  obtain ⟨ba, ha, HHa⟩ := hou a
  obtain ⟨bb, hb, HHb⟩ := hou b
  by_cases hS : ∀ i, i < 12 → Fig (S i)
  · by_cases hab : Hou a ∧ Hou b
    · have ea : ba = true := ha.2 hab.1
      have eb : bb = true := hb.2 hab.2
      by_cases hq : a = b
      · subst hq
        refine ties_err S a a true ba bb true (by simp) HHa HHb (fun W => rHouses_yes S hS W) (by rw [ea, eb]; decide) (fun W => ?_) w LH
        rw [ea, eb]
        exact pair_twice S hS a hab.1 W
      · have e : irow 12 S = irow 12 (cst fun i => (S i).toNat) := irow_congr fun i hi => by have := hS i hi; unfold Fig at this; simp [cst]; omega
        rw [e]
        have h1 := hab.1
        have h2 := hab.2
        unfold Hou at h1 h2
        exact ties_ok _ (fun i hi => by have := hS i hi; unfold Fig at this; show (S i).toNat < 16; omega) (a - 1).toNat (b - 1).toNat (by omega) (by omega) (by omega) a b (by omega) (by omega) w LH
    · have e : wantE (a == b) ba bb true = 3 := by
        unfold wantE
        rw [if_neg (by simp), if_pos]
        cases ba
        · simp
        · cases bb
          · simp
          · exact absurd ⟨ha.1 rfl, hb.1 rfl⟩ hab
      refine ties_err S a b (a == b) ba bb true rfl HHa HHb (fun W => rHouses_yes S hS W) (by rw [e]; decide) (fun W => ?_) w LH
      rw [e]
      exact pair_range S hS a b hab W
  · refine ties_err S a b (a == b) ba bb false rfl HHa HHb (fun W => rHouses_no S hS W) (by unfold wantE; simp) (fun W => ?_) w LH
    rw [show wantE (a == b) ba bb false = 2 from by unfold wantE; simp]
    exact pair_arg S hS a b W
end Go.Proofs.YtcdbkgpgjjeoiaaDoor
