/- The law HouseSingles. -/
import Derived.Test.YtcdbkgpgjjeoiaaDoorHK
import Derived.Test.YtcdbkgpgjjeoiaaDoorHR3
namespace Go.Proofs.YtcdbkgpgjjeoiaaDoor
open Go Go.RowKit
set_option maxRecDepth 100000
set_option linter.unusedSimpArgs false
set_option linter.unusedVariables false

set_option maxHeartbeats 1600000 in
theorem singles_arg (S : Nat → Int) (hS : ¬ ∀ i, i < 12 → Fig (S i)) (n : Int) (w : World) (LH : LaidH w) :
    Calls Tryd.prog 3 #[.agg (irow 12 S), .int .i64 n] w fun e w' => e = .returned (.bool true) ∧ Below w.heap.size w w' := by
  have HK := LH.known
  have HA := hid (fun W => stands_arg S hS n W)
  have HP := hid (fun W => partner_arg S hS n W)
  have HH := hid (fun W => rHouses_no S hS W)
  have HN : Hid (∃ b : Bool, ∀ W, Calls Tryd.prog 13 #[.int .i64 n] W fun e w' => e = .returned (.bool b) ∧ W = w') := by
    by_cases h : Hou n
    · exact hid ⟨true, fun W => rHouse_yes n h W⟩
    · exact hid ⟨false, fun W => rHouse_no n h W⟩
  obtain ⟨b, HN'⟩ := HN.out
  have HN2 := hid HN'
  have H0 := hid (heap_alloc_new w (.cells (irow 12 S) 24))
  have hB : Below w.heap.size w (w.alloc (.cells (irow 12 S) 24)) := (Below.refl _ _).alloc (Nat.le_refl _) _
  have hlt := heap_lt H0.out
  clear hS LH HN HN'
  obtain ⟨g, hg⟩ : ∃ g, w.heap.size = g := ⟨_, rfl⟩
  cases b
  all_goals
    go_enter Tryd.func3, Tryd.ntmps3
    go_wp2_with fail
    generalize w.alloc (.cells (irow 12 S) 24) = w1 at *
    rw [hg] at H0 hB hlt HK
    go_wp2_with (first
      | (refine ldrow arrHouses _ rfl rfl _ rfl _ _ H0.out ?_)
      | (go_at_call 11; refine (HA.out _).mono ?_; rintro e w2 ⟨rfl, hb⟩; have hsz := hB.size; have H0 := hid (heap_below hb H0.out (heap_lt H0.out)); have hB := hB.trans (hb.mono (by omega)))
      | (go_at_call 12; refine (HP.out _).mono ?_; rintro e w2 ⟨rfl, hb⟩; have hsz := hB.size; have H0 := hid (heap_below hb H0.out (heap_lt H0.out)); have hB := hB.trans (hb.mono (by omega)))
      | (go_at_call 13; refine (HN2.out _).mono ?_; rintro e w2 ⟨rfl, rfl⟩)
      | (go_at_call 14; refine (HH.out _).mono ?_; rintro e w2 ⟨rfl, hb⟩; have hsz := hB.size; have H0 := hid (heap_below hb H0.out (heap_lt H0.out)); have hB := hB.trans (hb.mono (by omega)))
      | (go_at_call 15; refine (HK.out _ hB).mono ?_; rintro e w2 ⟨rfl, hb⟩; have hsz := hB.size; have hB := hB.trans (hb.mono (by omega))))
    go_ret
    exact ⟨rfl, hg ▸ hB⟩
set_option maxHeartbeats 1600000 in
theorem singles_range (S : Nat → Int) (hS : ∀ i, i < 12 → Fig (S i)) (n : Int) (hn : ¬ Hou n) (w : World) (LH : LaidH w) :
    Calls Tryd.prog 3 #[.agg (irow 12 S), .int .i64 n] w fun e w' => e = .returned (.bool true) ∧ Below w.heap.size w w' := by
  have HK := LH.known
  have HA := hid (fun W => stands_range S hS n hn W)
  have HP := hid (fun W => partner_range S hS n hn W)
  have HH := hid (fun W => rHouses_yes S hS W)
  have HN2 := hid (fun W => rHouse_no n hn W)
  have H0 := hid (heap_alloc_new w (.cells (irow 12 S) 24))
  have hB : Below w.heap.size w (w.alloc (.cells (irow 12 S) 24)) := (Below.refl _ _).alloc (Nat.le_refl _) _
  have hlt := heap_lt H0.out
  clear hS LH hn
  obtain ⟨g, hg⟩ : ∃ g, w.heap.size = g := ⟨_, rfl⟩
  go_enter Tryd.func3, Tryd.ntmps3
  go_wp2_with fail
  generalize w.alloc (.cells (irow 12 S) 24) = w1 at *
  rw [hg] at H0 hB hlt HK
  go_wp2_with (first
    | (refine ldrow arrHouses _ rfl rfl _ rfl _ _ H0.out ?_)
    | (go_at_call 11; refine (HA.out _).mono ?_; rintro e w2 ⟨rfl, hb⟩; have hsz := hB.size; have H0 := hid (heap_below hb H0.out (heap_lt H0.out)); have hB := hB.trans (hb.mono (by omega)))
    | (go_at_call 12; refine (HP.out _).mono ?_; rintro e w2 ⟨rfl, hb⟩; have hsz := hB.size; have H0 := hid (heap_below hb H0.out (heap_lt H0.out)); have hB := hB.trans (hb.mono (by omega)))
    | (go_at_call 13; refine (HN2.out _).mono ?_; rintro e w2 ⟨rfl, rfl⟩)
    | (go_at_call 14; refine (HH.out _).mono ?_; rintro e w2 ⟨rfl, hb⟩; have hsz := hB.size; have H0 := hid (heap_below hb H0.out (heap_lt H0.out)); have hB := hB.trans (hb.mono (by omega)))
    | (go_at_call 15; refine (HK.out _ hB).mono ?_; rintro e w2 ⟨rfl, hb⟩; have hsz := hB.size; have hB := hB.trans (hb.mono (by omega))))
  go_ret
  exact ⟨rfl, hg ▸ hB⟩
def allL (h : Nat → Nat) (s k : Nat) : List Int := ((List.range k).filter fun y => h y == h s).map fun y => ((y + 1 : Nat) : Int)
theorem allL_yes {h : Nat → Nat} {s k : Nat} (e : h k = h s) : allL h s (k + 1) = allL h s k ++ [((k + 1 : Nat) : Int)] := by
  unfold allL; rw [List.range_succ, List.filter_append, List.map_append]; simp [e]
theorem allL_no {h : Nat → Nat} {s k : Nat} (e : h k ≠ h s) : allL h s (k + 1) = allL h s k := by
  unfold allL; rw [List.range_succ, List.filter_append, List.map_append]; simp [e]
theorem allL_len (h : Nat → Nat) (s k : Nat) : (allL h s k).length ≤ k := by
  unfold allL; rw [List.length_map]; exact Nat.le_trans (List.length_filter_le _ _) (by simp)
set_option maxHeartbeats 4000000 in
theorem singles_ok (h : Nat → Nat) (hh : ∀ i, i < 12 → h i < 16) (s : Nat) (hs : s < 12) (n : Int) (hn : n = ((s : Nat) : Int) + 1) (w : World) (LH : LaidH w) :
    Calls Tryd.prog 3 #[.agg (irow 12 (cst h)), .int .i64 n] w fun e w' => e = .returned (.bool true) ∧ Below w.heap.size w w' := by
  have HK := LH.known
  have HA := hid (fun W (hW : Below w.heap.size w W) => stands_c h hh s hs n hn W (LH.B.below hW))
  have HP := hid (fun W (hW : Below w.heap.size w W) => partner_c h hh s hs n hn W (LH.R.below hW))
  have hS : ∀ i, i < 12 → Fig (cst h i) := fun i hi => ⟨by simp, by have := hh i hi; simp; omega⟩
  have HH := hid (fun W => rHouses_yes (cst h) hS W)
  have HN2 := hid (fun W => rHouse_yes n (by unfold Hou; omega) W)
  have HQ := hid (fun W => rPartner s hs n hn W)
  obtain ⟨p, hp⟩ : ∃ p, parN s = p := ⟨_, rfl⟩
  have hp12 : p < 12 := by rw [← hp]; exact (parN_bd s hs).1
  rw [hp] at HP HQ
  have HAt1 := hid (fun W => rAt (cst h) s hs n hn W)
  have HAt2 := hid (fun (k : Nat) (hk : k < 12) (z : Int) (hz : z = ((k : Nat) : Int) + 1) W => rAt (cst h) k hk z hz W)
  obtain ⟨f, hf⟩ : ∃ f, h s = f := ⟨_, rfl⟩
  obtain ⟨r, hr⟩ : ∃ r, h p = r := ⟨_, rfl⟩
  have hf16 : f < 16 := by rw [← hf]; exact hh s hs
  have hr16 : r < 16 := by rw [← hr]; exact hh p hp12
  have HCo := hid (fun W => rCompany f r hf16 hr16 W)
  have HAp := hid (fun W => rAt (cst h) p hp12 ((p + 1 : Nat) : Int) (by push_cast; rfl) W)
  have e1 : cst h s = ((f : Nat) : Int) := by rw [← hf]; rfl
  have e2 : cst h p = ((r : Nat) : Int) := by rw [← hr]; rfl
  rw [e1] at HAt1
  rw [e2] at HAp
  rw [hf, hr] at HP
  obtain ⟨c, hc⟩ : ∃ c, compN f r = c := ⟨_, rfl⟩
  rw [hc] at HP HCo
  have HF := hid hf
  have H0 := hid (heap_alloc_new w (.cells (irow 12 (cst h)) 24))
  have hB : Below w.heap.size w (w.alloc (.cells (irow 12 (cst h)) 24)) := (Below.refl _ _).alloc (Nat.le_refl _) _
  have hlt := heap_lt H0.out
  clear hS LH hn hh e1 e2 hp hf hr hc
  obtain ⟨g, hg⟩ : ∃ g, w.heap.size = g := ⟨_, rfl⟩
  obtain ⟨pp, hpp⟩ : ∃ pp, p + 1 = pp := ⟨_, rfl⟩
  rw [hpp] at HP HQ HAp
  clear hpp
  go_enter Tryd.func3, Tryd.ntmps3
  go_wp2_with fail
  generalize w.alloc (.cells (irow 12 (cst h)) 24) = w1 at *
  rw [hg] at H0 hB hlt HK HA HP
  go_wp2_with (first
    | (refine ldrow arrHouses _ rfl rfl _ rfl _ _ H0.out ?_)
    | (go_at_call 11; refine (HA.out _ hB).mono ?_; rintro e w2 ⟨⟨v, rfl, hR⟩, hb⟩; have hsz := hB.size; have H0 := hid (heap_below hb H0.out (heap_lt H0.out)); have hB := hB.trans (hb.mono (by omega)))
    | (go_at_call 12; refine (HP.out _ hB).mono ?_; rintro e w2 ⟨rfl, hb⟩; have hsz := hB.size; have H0 := hid (heap_below hb H0.out (heap_lt H0.out)); have hB := hB.trans (hb.mono (by omega)); have hR := hR.below hb)
    | (go_at_call 13; refine (HN2.out _).mono ?_; rintro e w2 ⟨rfl, rfl⟩)
    | (go_at_call 14; refine (HH.out _).mono ?_; rintro e w2 ⟨rfl, hb⟩; have hsz := hB.size; have H0 := hid (heap_below hb H0.out (heap_lt H0.out)); have hB := hB.trans (hb.mono (by omega)); have HR := hid (hR.below hb); clear hR))
  have hw2 := hB.size
  have hge := heap_lt H0.out
  have hne0 : ((g : Nat)) + 1 ≤ w2.heap.size := hge
  go_loopw [11, 12] (fun l i wr => ∃ k : Nat, k ≤ 12 ∧ i = .int .i64 ((k : Nat) + 1) ∧ Ints wr w2.heap.size l (allL h s k) ∧ Below w2.heap.size w2 wr) (fun _ i _ => 13 - (intOf i).toNat)
  case atStart =>
    refine ⟨0, by omega, rfl, ?_, (Below.refl _ _).alloc (Nat.le_refl _) _⟩
    have := Ints.made w2 w2.heap.size (Nat.le_refl _)
    simpa [allL] using this
  case round =>
    obtain ⟨k, hk, rfl, hI, h2⟩ := hrel
    have hs2 := h2.size
    by_cases hlt : k < 12
    · have hlt' : ((k : Nat) : Int) + 1 ≤ 12 := by omega
      have hp0 : (0 : Int) ≤ k := by omega
      have HA3 := hid (fun W => HAt2.out k hlt (((k : Nat) : Int) + 1) rfl W)
      have hHw := hid (fun W (hW : Below wr.heap.size wr W) => heap_below (h2.trans (hW.mono hs2)) H0.out hge)
      have HI := hid hI
      clear hI
      obtain ⟨fk, hfk⟩ : ∃ fk, h k = fk := ⟨_, rfl⟩
      have e3 : cst h k = ((fk : Nat) : Int) := by rw [← hfk]; rfl
      rw [e3] at HA3
      have HFK := hid hfk
      clear e3 hfk
      by_cases he : fk = f
      · have hbe : (((fk : Nat) : Int) == ((f : Nat) : Int)) = true := by rw [he]; simp
        have HST := hid (allL_yes (h := h) (s := s) (k := k) (by rw [HFK.out, HF.out, he]))
        have hll := allL_len h s k
        clear he
        go_wp2_with fail
        have hS4 : Below wr.heap.size wr wr.drew := below_drew (Below.refl _ _)
        refine regD (fun W => Below wr.heap.size wr W) (fun _ => true) (by kernel_rfl) ?_
        refine takeE (i := 0) (.agg (irow 12 (cst h))) (d := some 64) rfl (by kernel_rfl) (by kernel_rfl) (by kernel_rfl) (by kernel_rfl) (fun _ _ _ h => h) rfl (fun W hSw => by exact exec_ldrow arrHouses rfl rfl (hHw.out W hSw)) (hS4) rfl ?_
        simp only [Act.put, List.setIfInBounds_toArray, List.set_cons_zero, List.set_cons_succ]
        refine takeE (i := 1) (.int .i64 (((k : Nat) : Int) + 1)) (d := some 65) rfl (by kernel_rfl) (by kernel_rfl) (by kernel_rfl) (by kernel_rfl) (fun _ _ _ h => h) rfl (fun W hSw => by rfl) (hS4) rfl ?_
        simp only [Act.put, List.setIfInBounds_toArray, List.set_cons_zero, List.set_cons_succ]
        refine takeE (i := 3) (.agg (irow 12 (cst h))) (d := some 67) rfl (by kernel_rfl) (by kernel_rfl) (by kernel_rfl) (by kernel_rfl) (fun _ _ _ h => h) rfl (fun W hSw => by exact exec_ldrow arrHouses rfl rfl (hHw.out W hSw)) (hS4) rfl ?_
        simp only [Act.put, List.setIfInBounds_toArray, List.set_cons_zero, List.set_cons_succ]
        refine takeE (i := 4) (.int .i64 n) (d := some 68) rfl (by kernel_rfl) (by kernel_rfl) (by kernel_rfl) (by kernel_rfl) (fun _ _ _ h => h) rfl (fun W hSw => by rfl) (hS4) rfl ?_
        simp only [Act.put, List.setIfInBounds_toArray, List.set_cons_zero, List.set_cons_succ]
        refine stepD 2 (by kernel_rfl) rfl rfl (fun K hK => ?_)
        go_simp
        go_at_call 16
        refine (HA3.out _).mono ?_
        rintro e w5 ⟨rfl, hb⟩
        have hS5 : Below wr.heap.size wr w5 := hS4.trans (hb.mono hS4.size)
        go_simp
        refine hK _ _ (fun _ => hS5) ?_
        clear hK K
        refine stepD 5 (by kernel_rfl) rfl rfl (fun K hK => ?_)
        go_simp
        go_at_call 16
        refine (HAt1.out _).mono ?_
        rintro e w6 ⟨rfl, hb⟩
        have hS6 : Below wr.heap.size wr w6 := hS5.trans (hb.mono hS5.size)
        go_simp
        refine hK _ _ (fun _ => hS6) ?_
        clear hK K
        refine stepD 6 (by kernel_rfl) rfl rfl (fun K hK => ?_)
        go_simp
        refine hK _ _ (fun _ => hS6) ?_
        clear hK K
        refine doneD (by kernel_rfl) ?_ _
        refine OnlyNorm.normal ?_
        have hB5 : Below wr.heap.size wr w6 := hS6
        have HI6 := hid ((HI.out.below hB5).below ((Below.refl _ w6).alloc (Nat.le_refl _) (.cells #[.int .i64 (((k : Nat) : Int) + 1)] 3)))
        have hs6 := hB5.size
        go_wp2_with (at_builtin; go_must (refine wp_append_int rfl _ _ rfl w2.heap.size _ _ rfl HI6.out (((k : Nat) : Int) + 1) w6.heap.size 1 rfl (by simp) (by omega) (by simp; omega) ?_); intro v' w7 ho7 hgr7)
        have hb7 := grown_below ((h2.trans (hB5.mono hs2)).alloc (by omega) (.cells #[.int .i64 (((k : Nat) : Int) + 1)] 3)) hgr7 HI6.out (by omega) (by simp; omega)
        go_roundw
        case rel => exact ⟨k + 1, by omega, by go_num, by rw [HST.out]; exact ho7, hb7⟩
        case measure => simp [intOf]; omega
      · have hbe : (((fk : Nat) : Int) == ((f : Nat) : Int)) = false := by simp; omega
        have HST := hid (allL_no (h := h) (s := s) (k := k) (by rw [HFK.out, HF.out]; exact he))
        clear he
        go_wp2_with fail
        have hS4 : Below wr.heap.size wr wr.drew := below_drew (Below.refl _ _)
        refine regD (fun W => Below wr.heap.size wr W) (fun _ => true) (by kernel_rfl) ?_
        refine takeE (i := 0) (.agg (irow 12 (cst h))) (d := some 64) rfl (by kernel_rfl) (by kernel_rfl) (by kernel_rfl) (by kernel_rfl) (fun _ _ _ h => h) rfl (fun W hSw => by exact exec_ldrow arrHouses rfl rfl (hHw.out W hSw)) (hS4) rfl ?_
        simp only [Act.put, List.setIfInBounds_toArray, List.set_cons_zero, List.set_cons_succ]
        refine takeE (i := 1) (.int .i64 (((k : Nat) : Int) + 1)) (d := some 65) rfl (by kernel_rfl) (by kernel_rfl) (by kernel_rfl) (by kernel_rfl) (fun _ _ _ h => h) rfl (fun W hSw => by rfl) (hS4) rfl ?_
        simp only [Act.put, List.setIfInBounds_toArray, List.set_cons_zero, List.set_cons_succ]
        refine takeE (i := 3) (.agg (irow 12 (cst h))) (d := some 67) rfl (by kernel_rfl) (by kernel_rfl) (by kernel_rfl) (by kernel_rfl) (fun _ _ _ h => h) rfl (fun W hSw => by exact exec_ldrow arrHouses rfl rfl (hHw.out W hSw)) (hS4) rfl ?_
        simp only [Act.put, List.setIfInBounds_toArray, List.set_cons_zero, List.set_cons_succ]
        refine takeE (i := 4) (.int .i64 n) (d := some 68) rfl (by kernel_rfl) (by kernel_rfl) (by kernel_rfl) (by kernel_rfl) (fun _ _ _ h => h) rfl (fun W hSw => by rfl) (hS4) rfl ?_
        simp only [Act.put, List.setIfInBounds_toArray, List.set_cons_zero, List.set_cons_succ]
        refine stepD 2 (by kernel_rfl) rfl rfl (fun K hK => ?_)
        go_simp
        go_at_call 16
        refine (HA3.out _).mono ?_
        rintro e w5 ⟨rfl, hb⟩
        have hS5 : Below wr.heap.size wr w5 := hS4.trans (hb.mono hS4.size)
        go_simp
        refine hK _ _ (fun _ => hS5) ?_
        clear hK K
        refine stepD 5 (by kernel_rfl) rfl rfl (fun K hK => ?_)
        go_simp
        go_at_call 16
        refine (HAt1.out _).mono ?_
        rintro e w6 ⟨rfl, hb⟩
        have hS6 : Below wr.heap.size wr w6 := hS5.trans (hb.mono hS5.size)
        go_simp
        refine hK _ _ (fun _ => hS6) ?_
        clear hK K
        refine stepD 6 (by kernel_rfl) rfl rfl (fun K hK => ?_)
        go_simp
        refine hK _ _ (fun _ => hS6) ?_
        clear hK K
        refine doneD (by kernel_rfl) ?_ _
        refine OnlyNorm.normal ?_
        have hB5 : Below wr.heap.size wr w6 := hS6
        go_wp2_with fail
        go_roundw
        case rel => exact ⟨k + 1, by omega, by go_num, by rw [HST.out]; exact HI.out.below hB5, h2.trans (hB5.mono hs2)⟩
        case measure => simp [intOf]; omega
    · have hge' : ¬ ((k : Nat) : Int) + 1 ≤ 12 := by omega
      obtain rfl : k = 12 := by omega
      have HI := hid (show Reads wr _ (staL h s) from hI.reads)
      clear hI
      have HRw := hid (HR.out.below h2)
      have hHw := hid (fun W (hW : Below wr.heap.size wr W) => heap_below (h2.trans (hW.mono hs2)) H0.out hge)
      have HKw := hid (fun W (hW : Below wr.heap.size wr W) => HK.out W (hB.trans ((h2.trans (hW.mono hs2)).mono (by rw [← hg]; exact hw2))))
      have hll := hid (allL_len h s 12)
      go_wp2_with (go_at_call 17; refine (HQ.out _).mono ?_; rintro e w' ⟨rfl, rfl⟩)
      have hS4 : Below wr.heap.size wr wr.drew := below_drew (Below.refl _ _)
      refine regD (fun W => Below wr.heap.size wr W) (fun _ => true) (by kernel_rfl) ?_
      refine takeE (i := 0) (.int .i64 0) (d := some 77) rfl (by kernel_rfl) (by kernel_rfl) (by kernel_rfl) (by kernel_rfl) (fun _ _ _ h => h) rfl (fun W hSw => by go_simp) (hS4) rfl ?_
      simp only [Act.put, List.setIfInBounds_toArray, List.set_cons_zero, List.set_cons_succ]
      refine takeE (i := 1) (.bool true) (d := some 78) rfl (by kernel_rfl) (by kernel_rfl) (by kernel_rfl) (by kernel_rfl) (fun _ _ _ h => h) rfl (fun W hSw => by go_simp) (hS4) rfl ?_
      simp only [Act.put, List.setIfInBounds_toArray, List.set_cons_zero, List.set_cons_succ]
      refine takeE (i := 2) (.bool true) (d := some 79) rfl (by kernel_rfl) (by kernel_rfl) (by kernel_rfl) (by kernel_rfl) (fun _ _ _ h => h) rfl (fun W hSw => by go_simp) (hS4) rfl ?_
      simp only [Act.put, List.setIfInBounds_toArray, List.set_cons_zero, List.set_cons_succ]
      refine takeY (i := 3) (.int .i64 0) (d := some 80) rfl (by kernel_rfl) (by kernel_rfl) (by kernel_rfl) (by kernel_rfl) (fun _ _ _ h => h) (by kernel_rfl) (fun W hSw => by go_simp) (hS4) rfl ?_
      simp only [Act.put, List.setIfInBounds_toArray, List.set_cons_zero, List.set_cons_succ]
      refine takeY (i := 4) (.bool true) (d := some 81) rfl (by kernel_rfl) (by kernel_rfl) (by kernel_rfl) (by kernel_rfl) (fun _ _ _ h => h) (by kernel_rfl) (fun W hSw => by go_simp) (hS4) rfl ?_
      simp only [Act.put, List.setIfInBounds_toArray, List.set_cons_zero, List.set_cons_succ]
      refine takeE (i := 5) (.bool true) (d := some 82) rfl (by kernel_rfl) (by kernel_rfl) (by kernel_rfl) (by kernel_rfl) (fun _ _ _ h => h) rfl (fun W hSw => by go_simp) (hS4) rfl ?_
      simp only [Act.put, List.setIfInBounds_toArray, List.set_cons_zero, List.set_cons_succ]
      refine takeE (i := 6) (.bool true) (d := some 83) rfl (by kernel_rfl) (by kernel_rfl) (by kernel_rfl) (by kernel_rfl) (fun _ _ _ h => h) rfl (fun W hSw => by go_simp) (hS4) rfl ?_
      simp only [Act.put, List.setIfInBounds_toArray, List.set_cons_zero, List.set_cons_succ]
      refine takeY (i := 7) (v) (d := some 84) rfl (by kernel_rfl) (by kernel_rfl) (by kernel_rfl) (by kernel_rfl) (fun _ _ _ h => h) (by kernel_rfl) (fun W hSw => by go_simp) (hS4) rfl ?_
      simp only [Act.put, List.setIfInBounds_toArray, List.set_cons_zero, List.set_cons_succ]
      refine takeY (i := 8) (u11) (d := some 85) rfl (by kernel_rfl) (by kernel_rfl) (by kernel_rfl) (by kernel_rfl) (fun _ _ _ h => h) (by kernel_rfl) (fun W hSw => by go_simp) (hS4) rfl ?_
      simp only [Act.put, List.setIfInBounds_toArray, List.set_cons_zero, List.set_cons_succ]
      refine stepY 9 (by kernel_rfl) rfl (by kernel_rfl) (fun K hK => ?_)
      go_simp
      go_at_call 18
      refine (same5_true _ _ (staL h s) _ (HRw.out.below hS4) (HI.out.below hS4) (by have := hll.out; unfold allL at this; unfold staL bitsL; omega)).mono ?_
      rintro e w5 ⟨rfl, hb⟩
      have hS5 : Below wr.heap.size wr w5 := hS4.trans (hb.mono hS4.size)
      go_simp
      refine hK _ _ (fun _ => hS5) ?_
      clear hK K
      refine takeE (i := 10) (.bool true) (d := some 87) rfl (by kernel_rfl) (by kernel_rfl) (by kernel_rfl) (by kernel_rfl) (fun _ _ _ h => h) rfl (fun W hSw => by go_simp) (hS5) rfl ?_
      simp only [Act.put, List.setIfInBounds_toArray, List.set_cons_zero, List.set_cons_succ]
      refine takeE (i := 11) (.bool true) (d := some 88) rfl (by kernel_rfl) (by kernel_rfl) (by kernel_rfl) (by kernel_rfl) (fun _ _ _ h => h) rfl (fun W hSw => by go_simp) (hS5) rfl ?_
      simp only [Act.put, List.setIfInBounds_toArray, List.set_cons_zero, List.set_cons_succ]
      refine takeY (i := 12) (.int .i64 ((pp : Nat) : Int)) (d := some 89) rfl (by kernel_rfl) (by kernel_rfl) (by kernel_rfl) (by kernel_rfl) (fun _ _ _ h => h) (by kernel_rfl) (fun W hSw => by go_simp) (hS5) rfl ?_
      simp only [Act.put, List.setIfInBounds_toArray, List.set_cons_zero, List.set_cons_succ]
      refine takeY (i := 13) (.int .i64 ((pp : Nat) : Int)) (d := some 90) rfl (by kernel_rfl) (by kernel_rfl) (by kernel_rfl) (by kernel_rfl) (fun _ _ _ h => h) (by kernel_rfl) (fun W hSw => by go_simp) (hS5) rfl ?_
      simp only [Act.put, List.setIfInBounds_toArray, List.set_cons_zero, List.set_cons_succ]
      refine takeY (i := 14) (.bool true) (d := some 91) rfl (by kernel_rfl) (by kernel_rfl) (by kernel_rfl) (by kernel_rfl) (fun _ _ _ h => h) (by kernel_rfl) (fun W hSw => by go_simp) (hS5) rfl ?_
      simp only [Act.put, List.setIfInBounds_toArray, List.set_cons_zero, List.set_cons_succ]
      refine takeE (i := 15) (.bool true) (d := some 92) rfl (by kernel_rfl) (by kernel_rfl) (by kernel_rfl) (by kernel_rfl) (fun _ _ _ h => h) rfl (fun W hSw => by go_simp) (hS5) rfl ?_
      simp only [Act.put, List.setIfInBounds_toArray, List.set_cons_zero, List.set_cons_succ]
      refine takeE (i := 16) (.bool true) (d := some 93) rfl (by kernel_rfl) (by kernel_rfl) (by kernel_rfl) (by kernel_rfl) (fun _ _ _ h => h) rfl (fun W hSw => by go_simp) (hS5) rfl ?_
      simp only [Act.put, List.setIfInBounds_toArray, List.set_cons_zero, List.set_cons_succ]
      refine takeY (i := 17) (.int .i64 ((c : Nat) : Int)) (d := some 94) rfl (by kernel_rfl) (by kernel_rfl) (by kernel_rfl) (by kernel_rfl) (fun _ _ _ h => h) (by kernel_rfl) (fun W hSw => by go_simp) (hS5) rfl ?_
      simp only [Act.put, List.setIfInBounds_toArray, List.set_cons_zero, List.set_cons_succ]
      refine takeY (i := 18) (.agg (irow 12 (cst h))) (d := some 95) rfl (by kernel_rfl) (by kernel_rfl) (by kernel_rfl) (by kernel_rfl) (fun _ _ _ h => h) (by kernel_rfl) (fun W hSw => by exact exec_ldrow arrHouses rfl rfl (hHw.out W hSw)) (hS5) rfl ?_
      simp only [Act.put, List.setIfInBounds_toArray, List.set_cons_zero, List.set_cons_succ]
      refine takeY (i := 19) (.int .i64 n) (d := some 96) rfl (by kernel_rfl) (by kernel_rfl) (by kernel_rfl) (by kernel_rfl) (fun _ _ _ h => h) (by kernel_rfl) (fun W hSw => by go_simp) (hS5) rfl ?_
      simp only [Act.put, List.setIfInBounds_toArray, List.set_cons_zero, List.set_cons_succ]
      refine takeY (i := 21) (.agg (irow 12 (cst h))) (d := some 98) rfl (by kernel_rfl) (by kernel_rfl) (by kernel_rfl) (by kernel_rfl) (fun _ _ _ h => h) (by kernel_rfl) (fun W hSw => by exact exec_ldrow arrHouses rfl rfl (hHw.out W hSw)) (hS5) rfl ?_
      simp only [Act.put, List.setIfInBounds_toArray, List.set_cons_zero, List.set_cons_succ]
      refine takeY (i := 22) (.int .i64 ((pp : Nat) : Int)) (d := some 99) rfl (by kernel_rfl) (by kernel_rfl) (by kernel_rfl) (by kernel_rfl) (fun _ _ _ h => h) (by kernel_rfl) (fun W hSw => by go_simp) (hS5) rfl ?_
      simp only [Act.put, List.setIfInBounds_toArray, List.set_cons_zero, List.set_cons_succ]
      refine stepY 20 (by kernel_rfl) rfl (by kernel_rfl) (fun K hK => ?_)
      go_simp
      go_at_call 16
      refine (HAt1.out _).mono ?_
      rintro e w6 ⟨rfl, hb⟩
      have hS6 : Below wr.heap.size wr w6 := hS5.trans (hb.mono hS5.size)
      go_simp
      refine hK _ _ (fun _ => hS6) ?_
      clear hK K
      refine stepY 23 (by kernel_rfl) rfl (by kernel_rfl) (fun K hK => ?_)
      go_simp
      go_at_call 16
      refine (HAp.out _).mono ?_
      rintro e w7 ⟨rfl, hb⟩
      have hS7 : Below wr.heap.size wr w7 := hS6.trans (hb.mono hS6.size)
      go_simp
      refine hK _ _ (fun _ => hS7) ?_
      clear hK K
      refine stepY 24 (by kernel_rfl) rfl (by kernel_rfl) (fun K hK => ?_)
      go_simp
      go_at_call 19
      refine (HCo.out _).mono ?_
      rintro e w8 ⟨rfl, hb⟩
      have hS8 : Below wr.heap.size wr w8 := hS7.trans (hb.mono hS7.size)
      go_simp
      refine hK _ _ (fun _ => hS8) ?_
      clear hK K
      refine takeY (i := 25) (.bool true) (d := some 102) rfl (by kernel_rfl) (by kernel_rfl) (by kernel_rfl) (by kernel_rfl) (fun _ _ _ h => h) (by kernel_rfl) (fun W hSw => by go_simp) (hS8) rfl ?_
      simp only [Act.put, List.setIfInBounds_toArray, List.set_cons_zero, List.set_cons_succ]
      refine takeE (i := 26) (.bool true) (d := some 103) rfl (by kernel_rfl) (by kernel_rfl) (by kernel_rfl) (by kernel_rfl) (fun _ _ _ h => h) rfl (fun W hSw => by go_simp) (hS8) rfl ?_
      simp only [Act.put, List.setIfInBounds_toArray, List.set_cons_zero, List.set_cons_succ]
      refine takeE (i := 27) (.bool true) (d := some 104) rfl (by kernel_rfl) (by kernel_rfl) (by kernel_rfl) (by kernel_rfl) (fun _ _ _ h => h) rfl (fun W hSw => by go_simp) (hS8) rfl ?_
      simp only [Act.put, List.setIfInBounds_toArray, List.set_cons_zero, List.set_cons_succ]
      refine stepY 28 (by kernel_rfl) rfl (by kernel_rfl) (fun K hK => ?_)
      go_simp
      go_at_call 15
      refine (HKw.out _ hS8).mono ?_
      rintro e w9 ⟨rfl, hb⟩
      have hS9 : Below wr.heap.size wr w9 := hS8.trans (hb.mono hS8.size)
      go_simp
      refine hK _ _ (fun _ => hS9) ?_
      clear hK K
      refine takeE (i := 29) (.bool true) (d := some 106) rfl (by kernel_rfl) (by kernel_rfl) (by kernel_rfl) (by kernel_rfl) (fun _ _ _ h => h) rfl (fun W hSw => by go_simp) (hS9) rfl ?_
      simp only [Act.put, List.setIfInBounds_toArray, List.set_cons_zero, List.set_cons_succ]
      refine stepD 30 (by kernel_rfl) rfl rfl (fun K hK => ?_)
      go_simp
      refine hK _ _ (fun _ => hS9) ?_
      clear hK K
      refine doneD (by kernel_rfl) ?_ _
      refine OnlyNorm.normal ?_
      have hB9 : Below wr.heap.size wr w9 := hS9
      go_wp2_with fail
      go_ret
      exact ⟨rfl, hg ▸ (hB.trans ((h2.trans (hB9.mono hs2)).mono (by rw [← hg]; exact hw2)))⟩
theorem lawSingles (S : Nat → Int) (n : Int) (w : World) (LH : LaidH w) :
    Calls Tryd.prog 3 #[.agg (irow 12 S), .int .i64 n] w fun e w' => e = .returned (.bool true) ∧ Below w.heap.size w w' := by
  by_cases hS : ∀ i, i < 12 → Fig (S i)
  · by_cases hn : Hou n
    · have e : irow 12 S = irow 12 (cst fun i => (S i).toNat) := irow_congr fun i hi => by have := hS i hi; unfold Fig at this; simp [cst]; omega
      rw [e]
      unfold Hou at hn
      exact singles_ok _ (fun i hi => by have := hS i hi; unfold Fig at this; omega) (n - 1).toNat (by omega) n (by omega) w LH
    · exact singles_range S hS n hn w LH
  · exact singles_arg S hS n w LH
end Go.Proofs.YtcdbkgpgjjeoiaaDoor
