/- The law HouseRulers. -/
import Derived.Test.YtcdbkgpgjjeoiaaDoorHX
import Derived.Test.YtcdbkgpgjjeoiaaDoorHK
import Derived.Test.YtcdbkgpgjjeoiaaDoorHR3
namespace Go.Proofs.YtcdbkgpgjjeoiaaDoor
open Go Go.RowKit
set_option maxRecDepth 100000
set_option linter.unusedSimpArgs false
set_option linter.unusedVariables false

theorem reads_some {W : World} {v : Value} {xs : List Int} (h : Reads W v xs) (h1 : 1 ≤ xs.length) : ∃ G o c, v = .slice (some ⟨G, o, none⟩) xs.length c ∧ G < W.heap.size ∧ ∀ k (h : k < xs.length), W.cell? ⟨G, o + k, none⟩ = some (.int .i64 xs[k]) := by
  rcases h with ⟨h0, _⟩ | h
  · rw [h0] at h1; simp at h1
  · exact h
set_option maxHeartbeats 4000000 in
theorem rulers_yes_yes_no (f : Nat) (hf : f < 16) (x y : Nat) (hx : x < 12) (hy : y < 12) (a b : Int) (ha : a = ((x : Nat) : Int) + 1) (hb' : b = ((y : Nat) : Int) + 1) (p : Int) (hp : p < 0 ∨ 8 < p) (w : World) (LH : LaidH w) :
    Calls Tryd.prog 7 #[.int .i64 ((f : Nat) : Int), .int .i64 p, .agg #[.int .i64 a, .int .i64 b]] w fun e w' => e = .returned (.bool true) ∧ Below w.heap.size w w' := by
  have HK := LH.known
  have HR := hid (fun W (hW : Below w.heap.size w W) => ruler_c f hf W (LH.R.below hW))
  have HFg := hid (fun W => rFigure_yes ((f : Nat) : Int) (by omega) (by omega) W)
  have HRr := hid (fun W => rRuler f hf W)
  obtain ⟨q, hq⟩ : ∃ q, rulN f = q := ⟨_, rfl⟩
  rw [hq] at HR HRr
  have hqq : (((q : Nat) : Int) != ((q : Nat) : Int)) = false := by simp
  clear hq hf
  have HAp := hid (fun W => apart_yes x y hx hy a b ha hb' W)
  have HRa := hid (fun W => rApart x y hx hy a b ha hb' W)
  have HHa := hid (fun W => rHouse_yes a (by unfold Hou; omega) W)
  have HHb := hid (fun W => rHouse_yes b (by unfold Hou; omega) W)
  obtain ⟨d, hd⟩ : ∃ d, apN x y = d := ⟨_, rfl⟩
  rw [hd] at HAp HRa
  have hdd : (((d : Nat) : Int) != ((d : Nat) : Int)) = false := by simp
  clear ha hb' hx hy hd
  have HRd := hid (fun W (_ : Below w.heap.size w W) => ruled_no p hp W)
  have a12 : (decide (p < 0) = true) ∨ (decide (p < 0) = false ∧ decide ((8 : Int) < p) = true) := by
    by_cases h : p < 0
    · exact .inl (by simpa using h)
    · exact .inr ⟨by simpa using h, by simp; omega⟩
  have H0 := hid (heap_alloc_new w (.cells #[.int .i64 a, .int .i64 b] 77))
  have hB : Below w.heap.size w (w.alloc (.cells #[.int .i64 a, .int .i64 b] 77)) := (Below.refl _ _).alloc (Nat.le_refl _) _
  clear LH hp
  obtain ⟨g, hg⟩ : ∃ g, w.heap.size = g := ⟨_, rfl⟩
  rcases a12 with a1 | ⟨a1, a2⟩
  all_goals
    go_enter Tryd.func7, Tryd.ntmps7
    go_wp2_with fail
    generalize w.alloc (.cells #[.int .i64 a, .int .i64 b] 77) = w1 at *
    rw [hg] at H0 hB HK HR HRd
    go_wp2_with (first
      | (go_at_call 34; refine (HR.out _ hB).mono ?_; rintro e w2 ⟨rfl, hb⟩; have hsz := hB.size; have H0 := hid (heap_below hb H0.out (heap_lt H0.out)); have hB := hB.trans (hb.mono (by omega)); have c0 : w2.cell? ⟨g, 0, none⟩ = some (.int .i64 a) := (cell_of_row _ _ 0 _ _ (0, 0) H0.out); have c1 : w2.cell? ⟨g, 1, none⟩ = some (.int .i64 b) := (cell_of_row _ _ 1 _ _ (0, 0) H0.out))
      | (go_at_call 35; refine (HRd.out _ hB).mono ?_; rintro e w3 ⟨rfl, hb⟩; have hsz := hB.size; have H0 := hid (heap_below hb H0.out (heap_lt H0.out)); have hB := hB.trans (hb.mono (by omega)); have c0 : w3.cell? ⟨g, 0, none⟩ = some (.int .i64 a) := (cell_of_row _ _ 0 _ _ (0, 0) H0.out); have c1 : w3.cell? ⟨g, 1, none⟩ = some (.int .i64 b) := (cell_of_row _ _ 1 _ _ (0, 0) H0.out))
      | (go_at_call 26; refine (HAp.out _).mono ?_; rintro e w4 ⟨rfl, hb⟩; have hsz := hB.size; have H0 := hid (heap_below hb H0.out (heap_lt H0.out)); have hB := hB.trans (hb.mono (by omega)); have c0 : w4.cell? ⟨g, 0, none⟩ = some (.int .i64 a) := (cell_of_row _ _ 0 _ _ (0, 0) H0.out); have c1 : w4.cell? ⟨g, 1, none⟩ = some (.int .i64 b) := (cell_of_row _ _ 1 _ _ (0, 0) H0.out))
      | (go_at_call 36; refine (HFg.out _).mono ?_; rintro e w' ⟨rfl, rfl⟩)
      | (go_at_call 13; refine (HHa.out _).mono ?_; rintro e w' ⟨rfl, rfl⟩)
      | (go_at_call 13; refine (HHb.out _).mono ?_; rintro e w' ⟨rfl, rfl⟩)
      | (go_at_call 38; refine (HRa.out _).mono ?_; rintro e w' ⟨rfl, rfl⟩)
      | (go_at_call 37; refine (HRr.out _).mono ?_; rintro e w' ⟨rfl, rfl⟩)
      | (go_at_call 15; refine (HK.out _ hB).mono ?_; rintro e w9 ⟨rfl, hb⟩; have hsz := hB.size; have hB := hB.trans (hb.mono (by omega))))
    go_ret
    exact ⟨rfl, hg ▸ hB⟩
set_option maxHeartbeats 4000000 in
theorem rulers_yes_yes_yes (f : Nat) (hf : f < 16) (x y : Nat) (hx : x < 12) (hy : y < 12) (a b : Int) (ha : a = ((x : Nat) : Int) + 1) (hb' : b = ((y : Nat) : Int) + 1) (p : Int) (h0 : 0 ≤ p) (h8 : p ≤ 8) (w : World) (LH : LaidH w) :
    Calls Tryd.prog 7 #[.int .i64 ((f : Nat) : Int), .int .i64 p, .agg #[.int .i64 a, .int .i64 b]] w fun e w' => e = .returned (.bool true) ∧ Below w.heap.size w w' := by
  have HK := LH.known
  have HR := hid (fun W (hW : Below w.heap.size w W) => ruler_c f hf W (LH.R.below hW))
  have HFg := hid (fun W => rFigure_yes ((f : Nat) : Int) (by omega) (by omega) W)
  have HRr := hid (fun W => rRuler f hf W)
  obtain ⟨q, hq⟩ : ∃ q, rulN f = q := ⟨_, rfl⟩
  rw [hq] at HR HRr
  have hqq : (((q : Nat) : Int) != ((q : Nat) : Int)) = false := by simp
  clear hq hf
  have HAp := hid (fun W => apart_yes x y hx hy a b ha hb' W)
  have HRa := hid (fun W => rApart x y hx hy a b ha hb' W)
  have HHa := hid (fun W => rHouse_yes a (by unfold Hou; omega) W)
  have HHb := hid (fun W => rHouse_yes b (by unfold Hou; omega) W)
  obtain ⟨d, hd⟩ : ∃ d, apN x y = d := ⟨_, rfl⟩
  rw [hd] at HAp HRa
  have hdd : (((d : Nat) : Int) != ((d : Nat) : Int)) = false := by simp
  clear ha hb' hx hy hd
  have HRd := hid (fun W (hW : Below w.heap.size w W) => ruled_c p h0 h8 W (LH.R.below hW))
  have a1 : decide (p < 0) = false := by simp; omega
  have a2 : decide ((8 : Int) < p) = false := by simp; omega
  have HRL := hid (fun k (hk : k < 16) W => rRuler k hk W)
  have hlen1 : 1 ≤ (ruledL p 16).length := by
    have := ruled_some p.toNat (by omega)
    rwa [show ((p.toNat : Nat) : Int) = p by omega] at this
  have hlen2 := ruledL_len p 16
  have H0 := hid (heap_alloc_new w (.cells #[.int .i64 a, .int .i64 b] 77))
  have hB : Below w.heap.size w (w.alloc (.cells #[.int .i64 a, .int .i64 b] 77)) := (Below.refl _ _).alloc (Nat.le_refl _) _
  clear LH 
  obtain ⟨g, hg⟩ : ∃ g, w.heap.size = g := ⟨_, rfl⟩
  go_enter Tryd.func7, Tryd.ntmps7
  go_wp2_with fail
  generalize w.alloc (.cells #[.int .i64 a, .int .i64 b] 77) = w1 at *
  rw [hg] at H0 hB HK HR HRd
  go_wp2_with (first
    | (go_at_call 34; refine (HR.out _ hB).mono ?_; rintro e w2 ⟨rfl, hb⟩; have hsz := hB.size; have H0 := hid (heap_below hb H0.out (heap_lt H0.out)); have hB := hB.trans (hb.mono (by omega)); have c0 : w2.cell? ⟨g, 0, none⟩ = some (.int .i64 a) := (cell_of_row _ _ 0 _ _ (0, 0) H0.out); have c1 : w2.cell? ⟨g, 1, none⟩ = some (.int .i64 b) := (cell_of_row _ _ 1 _ _ (0, 0) H0.out))
    | (go_at_call 35; refine (HRd.out _ hB).mono ?_; rintro e w3 ⟨v, rfl, hR, hb⟩; obtain ⟨G, o, c, rfl, -⟩ := reads_some hR hlen1; have hsz := hB.size; have H0 := hid (heap_below hb H0.out (heap_lt H0.out)); have hB := hB.trans (hb.mono (by omega)); have c0 : w3.cell? ⟨g, 0, none⟩ = some (.int .i64 a) := (cell_of_row _ _ 0 _ _ (0, 0) H0.out); have c1 : w3.cell? ⟨g, 1, none⟩ = some (.int .i64 b) := (cell_of_row _ _ 1 _ _ (0, 0) H0.out))
    | (go_at_call 26; refine (HAp.out _).mono ?_; rintro e w4 ⟨rfl, hb⟩; have hsz := hB.size; have H0 := hid (heap_below hb H0.out (heap_lt H0.out)); have hB := hB.trans (hb.mono (by omega)); have c0 : w4.cell? ⟨g, 0, none⟩ = some (.int .i64 a) := (cell_of_row _ _ 0 _ _ (0, 0) H0.out); have c1 : w4.cell? ⟨g, 1, none⟩ = some (.int .i64 b) := (cell_of_row _ _ 1 _ _ (0, 0) H0.out); have hR := hR.below hb)
    | (go_at_call 36; refine (HFg.out _).mono ?_; rintro e w' ⟨rfl, rfl⟩)
    | (go_at_call 13; refine (HHa.out _).mono ?_; rintro e w' ⟨rfl, rfl⟩)
    | (go_at_call 13; refine (HHb.out _).mono ?_; rintro e w' ⟨rfl, rfl⟩)
    | (go_at_call 38; refine (HRa.out _).mono ?_; rintro e w' ⟨rfl, rfl⟩)
    | (go_at_call 37; refine (HRr.out _).mono ?_; rintro e w' ⟨rfl, rfl⟩)
    | fail)
  have hw4 := hB.size
  have HRr2 := hid hR
  clear hR
  go_loopw [14, 15] (fun l i wr => ∃ k : Nat, k ≤ 16 ∧ i = .int .i64 k ∧ Figs wr w4.heap.size l (ruledL p k) ∧ Below w4.heap.size w4 wr) (fun _ i _ => 16 - (intOf i).toNat)
  case atStart => exact ⟨0, by omega, rfl, Figs.made w4 w4.heap.size (Nat.le_refl _), (Below.refl _ _).alloc (Nat.le_refl _) _⟩
  case round =>
    obtain ⟨k, hk, rfl, hI, h2⟩ := hrel
    have hs := h2.size
    have HI := hid hI
    clear hI
    by_cases hlt : k < 16
    · have hlt' : ((k : Nat) : Int) < 16 := by omega
      have hll := ruledL_len p k
      have HRk := hid (HRL.out k hlt)
      obtain ⟨r, hr⟩ : ∃ r, rulN k = r := ⟨_, rfl⟩
      rw [hr] at HRk
      by_cases he : p = ((r : Nat) : Int)
      · have hbe : (((r : Nat) : Int) == p) = true := by rw [he]; simp
        have HST := hid (show ruledL p (k + 1) = ruledL p k ++ [((k : Nat) : Int)] by rw [ruledL, hr, if_pos he])
        clear he hr
        have HI6 := hid (HI.out.below ((Below.refl _ wr).alloc (Nat.le_refl _) (.cells #[.int .i64 ((k : Nat) : Int)] 22)))
        go_wp2_with (first
          | (go_at_call 37; refine (HRk.out _).mono ?_; rintro e w' ⟨rfl, rfl⟩)
          | (at_builtin; go_must (refine wp_append_fig rfl _ _ rfl w4.heap.size _ _ rfl HI6.out ((k : Nat) : Int) wr.heap.size 1 rfl (by simp) (by omega) (by simp; omega) ?_); intro v' w7 ho7 hgr7))
        have hb7 := figs_grown_below (h2.alloc hs (.cells #[.int .i64 ((k : Nat) : Int)] 22)) hgr7 HI6.out (by omega) (by simp; omega)
        go_roundw
        case rel => exact ⟨k + 1, by omega, by go_num, by rw [HST.out]; exact ho7, hb7⟩
        case measure => simp [intOf]; omega
      · have hbe : (((r : Nat) : Int) == p) = false := by
          rw [Bool.eq_false_iff]
          intro h
          exact he (by simpa using (beq_iff_eq.1 h).symm)
        have HST := hid (show ruledL p (k + 1) = ruledL p k by rw [ruledL, hr, if_neg he, List.append_nil])
        clear he hr
        go_wp2_with (go_at_call 37; refine (HRk.out _).mono ?_; rintro e w' ⟨rfl, rfl⟩)
        go_roundw
        case rel => exact ⟨k + 1, by omega, by go_num, by rw [HST.out]; exact HI.out, h2⟩
        case measure => simp [intOf]; omega
    · have hge : ¬ ((k : Nat) : Int) < 16 := by omega
      obtain rfl : k = 16 := by omega
      have hR2 := HI.out.reads
      have hR1 := HRr2.out.below h2
      obtain ⟨G1, o1, c1', e1, hG1, hc1⟩ := reads_some hR1 hlen1
      obtain ⟨G2, o2, c2', e2, hG2, hc2⟩ := reads_some hR2 hlen1
      cases e1
      subst e2
      clear hR1 hR2 HI HRr2
      have hB := hB.trans (h2.mono (by rw [← hg]; exact hw4))
      have HC1 := hid hc1
      have HC2 := hid hc2
      clear hc1 hc2 c0 c1
      obtain ⟨n, hn⟩ : ∃ n, (ruledL p 16).length = n := ⟨_, rfl⟩
      have HN := hid hn
      have hnn : (((n : Nat) : Int) != ((n : Nat) : Int)) = false := by simp
      rw [hn] at hlen1 hlen2 ⊢
      clear hn
      go_wp2_with fail
      go_loopw [16] (fun i wr' => ∃ k m : Nat, k ≤ n ∧ i = .int .i64 k ∧ wr' = wr.drewN m) (fun i _ => n - (intOf i).toNat)
      case atStart => exact ⟨0, 0, by omega, rfl, rfl⟩
      case round =>
        obtain ⟨k, m, hk, rfl, rfl⟩ := hrel
        by_cases hlt : k < n
        · have hlt' : ((k : Nat) : Int) < ((n : Nat) : Int) := by omega
          have hp0 : (0 : Int) ≤ k := by omega
          have k1 := HC1.out k (by rw [HN.out]; exact hlt)
          have k2 := HC2.out k (by rw [HN.out]; exact hlt)
          generalize (ruledL p 16)[k]'(by rw [HN.out]; exact hlt) = z at *
          have hne : (z != z) = false := by simp
          go_wp2_with fail
          go_quiet (fail)
          go_wp2_with fail
          go_roundw
          case rel => exact ⟨k + 1, m + nq, by omega, by go_num, rfl⟩
          case measure => simp [intOf]; omega
        · have hge : ¬ ((k : Nat) : Int) < ((n : Nat) : Int) := by omega
          have hB := below_drewN hB m
          generalize wr.drewN m = w8 at *
          go_wp2_with (go_at_call 15; refine (HK.out _ hB).mono ?_; rintro e w9 ⟨rfl, hb⟩; have hsz := hB.size; have hB := hB.trans (hb.mono (by omega)))
          go_ret
          exact ⟨rfl, hg ▸ hB⟩
set_option maxHeartbeats 4000000 in
theorem rulers_yes_noa_no (f : Nat) (hf : f < 16) (a b : Int) (hab : ¬ (Hou a ∧ Hou b)) (hna : ¬ Hou a) (p : Int) (hp : p < 0 ∨ 8 < p) (w : World) (LH : LaidH w) :
    Calls Tryd.prog 7 #[.int .i64 ((f : Nat) : Int), .int .i64 p, .agg #[.int .i64 a, .int .i64 b]] w fun e w' => e = .returned (.bool true) ∧ Below w.heap.size w w' := by
  have HK := LH.known
  have HR := hid (fun W (hW : Below w.heap.size w W) => ruler_c f hf W (LH.R.below hW))
  have HFg := hid (fun W => rFigure_yes ((f : Nat) : Int) (by omega) (by omega) W)
  have HRr := hid (fun W => rRuler f hf W)
  obtain ⟨q, hq⟩ : ∃ q, rulN f = q := ⟨_, rfl⟩
  rw [hq] at HR HRr
  have hqq : (((q : Nat) : Int) != ((q : Nat) : Int)) = false := by simp
  clear hq hf
  have HAp := hid (fun W => apart_no a b hab W)
  have HHa := hid (fun W => rHouse_no a hna W)
  clear hab hna
  have HRd := hid (fun W (_ : Below w.heap.size w W) => ruled_no p hp W)
  have a12 : (decide (p < 0) = true) ∨ (decide (p < 0) = false ∧ decide ((8 : Int) < p) = true) := by
    by_cases h : p < 0
    · exact .inl (by simpa using h)
    · exact .inr ⟨by simpa using h, by simp; omega⟩
  have H0 := hid (heap_alloc_new w (.cells #[.int .i64 a, .int .i64 b] 77))
  have hB : Below w.heap.size w (w.alloc (.cells #[.int .i64 a, .int .i64 b] 77)) := (Below.refl _ _).alloc (Nat.le_refl _) _
  clear LH hp
  obtain ⟨g, hg⟩ : ∃ g, w.heap.size = g := ⟨_, rfl⟩
  rcases a12 with a1 | ⟨a1, a2⟩
  all_goals
    go_enter Tryd.func7, Tryd.ntmps7
    go_wp2_with fail
    generalize w.alloc (.cells #[.int .i64 a, .int .i64 b] 77) = w1 at *
    rw [hg] at H0 hB HK HR HRd
    go_wp2_with (first
      | (go_at_call 34; refine (HR.out _ hB).mono ?_; rintro e w2 ⟨rfl, hb⟩; have hsz := hB.size; have H0 := hid (heap_below hb H0.out (heap_lt H0.out)); have hB := hB.trans (hb.mono (by omega)); have c0 : w2.cell? ⟨g, 0, none⟩ = some (.int .i64 a) := (cell_of_row _ _ 0 _ _ (0, 0) H0.out); have c1 : w2.cell? ⟨g, 1, none⟩ = some (.int .i64 b) := (cell_of_row _ _ 1 _ _ (0, 0) H0.out))
      | (go_at_call 35; refine (HRd.out _ hB).mono ?_; rintro e w3 ⟨rfl, hb⟩; have hsz := hB.size; have H0 := hid (heap_below hb H0.out (heap_lt H0.out)); have hB := hB.trans (hb.mono (by omega)); have c0 : w3.cell? ⟨g, 0, none⟩ = some (.int .i64 a) := (cell_of_row _ _ 0 _ _ (0, 0) H0.out); have c1 : w3.cell? ⟨g, 1, none⟩ = some (.int .i64 b) := (cell_of_row _ _ 1 _ _ (0, 0) H0.out))
      | (go_at_call 26; refine (HAp.out _).mono ?_; rintro e w4 ⟨rfl, hb⟩; have hsz := hB.size; have H0 := hid (heap_below hb H0.out (heap_lt H0.out)); have hB := hB.trans (hb.mono (by omega)); have c0 : w4.cell? ⟨g, 0, none⟩ = some (.int .i64 a) := (cell_of_row _ _ 0 _ _ (0, 0) H0.out); have c1 : w4.cell? ⟨g, 1, none⟩ = some (.int .i64 b) := (cell_of_row _ _ 1 _ _ (0, 0) H0.out))
      | (go_at_call 36; refine (HFg.out _).mono ?_; rintro e w' ⟨rfl, rfl⟩)
      | (go_at_call 13; refine (HHa.out _).mono ?_; rintro e w' ⟨rfl, rfl⟩)
      | (go_at_call 37; refine (HRr.out _).mono ?_; rintro e w' ⟨rfl, rfl⟩)
      | (go_at_call 15; refine (HK.out _ hB).mono ?_; rintro e w9 ⟨rfl, hb⟩; have hsz := hB.size; have hB := hB.trans (hb.mono (by omega))))
    go_ret
    exact ⟨rfl, hg ▸ hB⟩
set_option maxHeartbeats 4000000 in
theorem rulers_yes_noa_yes (f : Nat) (hf : f < 16) (a b : Int) (hab : ¬ (Hou a ∧ Hou b)) (hna : ¬ Hou a) (p : Int) (h0 : 0 ≤ p) (h8 : p ≤ 8) (w : World) (LH : LaidH w) :
    Calls Tryd.prog 7 #[.int .i64 ((f : Nat) : Int), .int .i64 p, .agg #[.int .i64 a, .int .i64 b]] w fun e w' => e = .returned (.bool true) ∧ Below w.heap.size w w' := by
  have HK := LH.known
  have HR := hid (fun W (hW : Below w.heap.size w W) => ruler_c f hf W (LH.R.below hW))
  have HFg := hid (fun W => rFigure_yes ((f : Nat) : Int) (by omega) (by omega) W)
  have HRr := hid (fun W => rRuler f hf W)
  obtain ⟨q, hq⟩ : ∃ q, rulN f = q := ⟨_, rfl⟩
  rw [hq] at HR HRr
  have hqq : (((q : Nat) : Int) != ((q : Nat) : Int)) = false := by simp
  clear hq hf
  have HAp := hid (fun W => apart_no a b hab W)
  have HHa := hid (fun W => rHouse_no a hna W)
  clear hab hna
  have HRd := hid (fun W (hW : Below w.heap.size w W) => ruled_c p h0 h8 W (LH.R.below hW))
  have a1 : decide (p < 0) = false := by simp; omega
  have a2 : decide ((8 : Int) < p) = false := by simp; omega
  have HRL := hid (fun k (hk : k < 16) W => rRuler k hk W)
  have hlen1 : 1 ≤ (ruledL p 16).length := by
    have := ruled_some p.toNat (by omega)
    rwa [show ((p.toNat : Nat) : Int) = p by omega] at this
  have hlen2 := ruledL_len p 16
  have H0 := hid (heap_alloc_new w (.cells #[.int .i64 a, .int .i64 b] 77))
  have hB : Below w.heap.size w (w.alloc (.cells #[.int .i64 a, .int .i64 b] 77)) := (Below.refl _ _).alloc (Nat.le_refl _) _
  clear LH 
  obtain ⟨g, hg⟩ : ∃ g, w.heap.size = g := ⟨_, rfl⟩
  go_enter Tryd.func7, Tryd.ntmps7
  go_wp2_with fail
  generalize w.alloc (.cells #[.int .i64 a, .int .i64 b] 77) = w1 at *
  rw [hg] at H0 hB HK HR HRd
  go_wp2_with (first
    | (go_at_call 34; refine (HR.out _ hB).mono ?_; rintro e w2 ⟨rfl, hb⟩; have hsz := hB.size; have H0 := hid (heap_below hb H0.out (heap_lt H0.out)); have hB := hB.trans (hb.mono (by omega)); have c0 : w2.cell? ⟨g, 0, none⟩ = some (.int .i64 a) := (cell_of_row _ _ 0 _ _ (0, 0) H0.out); have c1 : w2.cell? ⟨g, 1, none⟩ = some (.int .i64 b) := (cell_of_row _ _ 1 _ _ (0, 0) H0.out))
    | (go_at_call 35; refine (HRd.out _ hB).mono ?_; rintro e w3 ⟨v, rfl, hR, hb⟩; obtain ⟨G, o, c, rfl, -⟩ := reads_some hR hlen1; have hsz := hB.size; have H0 := hid (heap_below hb H0.out (heap_lt H0.out)); have hB := hB.trans (hb.mono (by omega)); have c0 : w3.cell? ⟨g, 0, none⟩ = some (.int .i64 a) := (cell_of_row _ _ 0 _ _ (0, 0) H0.out); have c1 : w3.cell? ⟨g, 1, none⟩ = some (.int .i64 b) := (cell_of_row _ _ 1 _ _ (0, 0) H0.out))
    | (go_at_call 26; refine (HAp.out _).mono ?_; rintro e w4 ⟨rfl, hb⟩; have hsz := hB.size; have H0 := hid (heap_below hb H0.out (heap_lt H0.out)); have hB := hB.trans (hb.mono (by omega)); have c0 : w4.cell? ⟨g, 0, none⟩ = some (.int .i64 a) := (cell_of_row _ _ 0 _ _ (0, 0) H0.out); have c1 : w4.cell? ⟨g, 1, none⟩ = some (.int .i64 b) := (cell_of_row _ _ 1 _ _ (0, 0) H0.out); have hR := hR.below hb)
    | (go_at_call 36; refine (HFg.out _).mono ?_; rintro e w' ⟨rfl, rfl⟩)
    | (go_at_call 13; refine (HHa.out _).mono ?_; rintro e w' ⟨rfl, rfl⟩)
    | (go_at_call 37; refine (HRr.out _).mono ?_; rintro e w' ⟨rfl, rfl⟩)
    | fail)
  have hw4 := hB.size
  have HRr2 := hid hR
  clear hR
  go_loopw [14, 15] (fun l i wr => ∃ k : Nat, k ≤ 16 ∧ i = .int .i64 k ∧ Figs wr w4.heap.size l (ruledL p k) ∧ Below w4.heap.size w4 wr) (fun _ i _ => 16 - (intOf i).toNat)
  case atStart => exact ⟨0, by omega, rfl, Figs.made w4 w4.heap.size (Nat.le_refl _), (Below.refl _ _).alloc (Nat.le_refl _) _⟩
  case round =>
    obtain ⟨k, hk, rfl, hI, h2⟩ := hrel
    have hs := h2.size
    have HI := hid hI
    clear hI
    by_cases hlt : k < 16
    · have hlt' : ((k : Nat) : Int) < 16 := by omega
      have hll := ruledL_len p k
      have HRk := hid (HRL.out k hlt)
      obtain ⟨r, hr⟩ : ∃ r, rulN k = r := ⟨_, rfl⟩
      rw [hr] at HRk
      by_cases he : p = ((r : Nat) : Int)
      · have hbe : (((r : Nat) : Int) == p) = true := by rw [he]; simp
        have HST := hid (show ruledL p (k + 1) = ruledL p k ++ [((k : Nat) : Int)] by rw [ruledL, hr, if_pos he])
        clear he hr
        have HI6 := hid (HI.out.below ((Below.refl _ wr).alloc (Nat.le_refl _) (.cells #[.int .i64 ((k : Nat) : Int)] 22)))
        go_wp2_with (first
          | (go_at_call 37; refine (HRk.out _).mono ?_; rintro e w' ⟨rfl, rfl⟩)
          | (at_builtin; go_must (refine wp_append_fig rfl _ _ rfl w4.heap.size _ _ rfl HI6.out ((k : Nat) : Int) wr.heap.size 1 rfl (by simp) (by omega) (by simp; omega) ?_); intro v' w7 ho7 hgr7))
        have hb7 := figs_grown_below (h2.alloc hs (.cells #[.int .i64 ((k : Nat) : Int)] 22)) hgr7 HI6.out (by omega) (by simp; omega)
        go_roundw
        case rel => exact ⟨k + 1, by omega, by go_num, by rw [HST.out]; exact ho7, hb7⟩
        case measure => simp [intOf]; omega
      · have hbe : (((r : Nat) : Int) == p) = false := by
          rw [Bool.eq_false_iff]
          intro h
          exact he (by simpa using (beq_iff_eq.1 h).symm)
        have HST := hid (show ruledL p (k + 1) = ruledL p k by rw [ruledL, hr, if_neg he, List.append_nil])
        clear he hr
        go_wp2_with (go_at_call 37; refine (HRk.out _).mono ?_; rintro e w' ⟨rfl, rfl⟩)
        go_roundw
        case rel => exact ⟨k + 1, by omega, by go_num, by rw [HST.out]; exact HI.out, h2⟩
        case measure => simp [intOf]; omega
    · have hge : ¬ ((k : Nat) : Int) < 16 := by omega
      obtain rfl : k = 16 := by omega
      have hR2 := HI.out.reads
      have hR1 := HRr2.out.below h2
      obtain ⟨G1, o1, c1', e1, hG1, hc1⟩ := reads_some hR1 hlen1
      obtain ⟨G2, o2, c2', e2, hG2, hc2⟩ := reads_some hR2 hlen1
      cases e1
      subst e2
      clear hR1 hR2 HI HRr2
      have hB := hB.trans (h2.mono (by rw [← hg]; exact hw4))
      have HC1 := hid hc1
      have HC2 := hid hc2
      clear hc1 hc2 c0 c1
      obtain ⟨n, hn⟩ : ∃ n, (ruledL p 16).length = n := ⟨_, rfl⟩
      have HN := hid hn
      have hnn : (((n : Nat) : Int) != ((n : Nat) : Int)) = false := by simp
      rw [hn] at hlen1 hlen2 ⊢
      clear hn
      go_wp2_with fail
      go_loopw [16] (fun i wr' => ∃ k m : Nat, k ≤ n ∧ i = .int .i64 k ∧ wr' = wr.drewN m) (fun i _ => n - (intOf i).toNat)
      case atStart => exact ⟨0, 0, by omega, rfl, rfl⟩
      case round =>
        obtain ⟨k, m, hk, rfl, rfl⟩ := hrel
        by_cases hlt : k < n
        · have hlt' : ((k : Nat) : Int) < ((n : Nat) : Int) := by omega
          have hp0 : (0 : Int) ≤ k := by omega
          have k1 := HC1.out k (by rw [HN.out]; exact hlt)
          have k2 := HC2.out k (by rw [HN.out]; exact hlt)
          generalize (ruledL p 16)[k]'(by rw [HN.out]; exact hlt) = z at *
          have hne : (z != z) = false := by simp
          go_wp2_with fail
          go_quiet (fail)
          go_wp2_with fail
          go_roundw
          case rel => exact ⟨k + 1, m + nq, by omega, by go_num, rfl⟩
          case measure => simp [intOf]; omega
        · have hge : ¬ ((k : Nat) : Int) < ((n : Nat) : Int) := by omega
          have hB := below_drewN hB m
          generalize wr.drewN m = w8 at *
          go_wp2_with (go_at_call 15; refine (HK.out _ hB).mono ?_; rintro e w9 ⟨rfl, hb⟩; have hsz := hB.size; have hB := hB.trans (hb.mono (by omega)))
          go_ret
          exact ⟨rfl, hg ▸ hB⟩
set_option maxHeartbeats 4000000 in
theorem rulers_yes_nob_no (f : Nat) (hf : f < 16) (a b : Int) (hab : ¬ (Hou a ∧ Hou b)) (hha : Hou a) (hnb : ¬ Hou b) (p : Int) (hp : p < 0 ∨ 8 < p) (w : World) (LH : LaidH w) :
    Calls Tryd.prog 7 #[.int .i64 ((f : Nat) : Int), .int .i64 p, .agg #[.int .i64 a, .int .i64 b]] w fun e w' => e = .returned (.bool true) ∧ Below w.heap.size w w' := by
  have HK := LH.known
  have HR := hid (fun W (hW : Below w.heap.size w W) => ruler_c f hf W (LH.R.below hW))
  have HFg := hid (fun W => rFigure_yes ((f : Nat) : Int) (by omega) (by omega) W)
  have HRr := hid (fun W => rRuler f hf W)
  obtain ⟨q, hq⟩ : ∃ q, rulN f = q := ⟨_, rfl⟩
  rw [hq] at HR HRr
  have hqq : (((q : Nat) : Int) != ((q : Nat) : Int)) = false := by simp
  clear hq hf
  have HAp := hid (fun W => apart_no a b hab W)
  have HHa := hid (fun W => rHouse_yes a hha W)
  have HHb := hid (fun W => rHouse_no b hnb W)
  clear hab hha hnb
  have HRd := hid (fun W (_ : Below w.heap.size w W) => ruled_no p hp W)
  have a12 : (decide (p < 0) = true) ∨ (decide (p < 0) = false ∧ decide ((8 : Int) < p) = true) := by
    by_cases h : p < 0
    · exact .inl (by simpa using h)
    · exact .inr ⟨by simpa using h, by simp; omega⟩
  have H0 := hid (heap_alloc_new w (.cells #[.int .i64 a, .int .i64 b] 77))
  have hB : Below w.heap.size w (w.alloc (.cells #[.int .i64 a, .int .i64 b] 77)) := (Below.refl _ _).alloc (Nat.le_refl _) _
  clear LH hp
  obtain ⟨g, hg⟩ : ∃ g, w.heap.size = g := ⟨_, rfl⟩
  rcases a12 with a1 | ⟨a1, a2⟩
  all_goals
    go_enter Tryd.func7, Tryd.ntmps7
    go_wp2_with fail
    generalize w.alloc (.cells #[.int .i64 a, .int .i64 b] 77) = w1 at *
    rw [hg] at H0 hB HK HR HRd
    go_wp2_with (first
      | (go_at_call 34; refine (HR.out _ hB).mono ?_; rintro e w2 ⟨rfl, hb⟩; have hsz := hB.size; have H0 := hid (heap_below hb H0.out (heap_lt H0.out)); have hB := hB.trans (hb.mono (by omega)); have c0 : w2.cell? ⟨g, 0, none⟩ = some (.int .i64 a) := (cell_of_row _ _ 0 _ _ (0, 0) H0.out); have c1 : w2.cell? ⟨g, 1, none⟩ = some (.int .i64 b) := (cell_of_row _ _ 1 _ _ (0, 0) H0.out))
      | (go_at_call 35; refine (HRd.out _ hB).mono ?_; rintro e w3 ⟨rfl, hb⟩; have hsz := hB.size; have H0 := hid (heap_below hb H0.out (heap_lt H0.out)); have hB := hB.trans (hb.mono (by omega)); have c0 : w3.cell? ⟨g, 0, none⟩ = some (.int .i64 a) := (cell_of_row _ _ 0 _ _ (0, 0) H0.out); have c1 : w3.cell? ⟨g, 1, none⟩ = some (.int .i64 b) := (cell_of_row _ _ 1 _ _ (0, 0) H0.out))
      | (go_at_call 26; refine (HAp.out _).mono ?_; rintro e w4 ⟨rfl, hb⟩; have hsz := hB.size; have H0 := hid (heap_below hb H0.out (heap_lt H0.out)); have hB := hB.trans (hb.mono (by omega)); have c0 : w4.cell? ⟨g, 0, none⟩ = some (.int .i64 a) := (cell_of_row _ _ 0 _ _ (0, 0) H0.out); have c1 : w4.cell? ⟨g, 1, none⟩ = some (.int .i64 b) := (cell_of_row _ _ 1 _ _ (0, 0) H0.out))
      | (go_at_call 36; refine (HFg.out _).mono ?_; rintro e w' ⟨rfl, rfl⟩)
      | (go_at_call 13; refine (HHa.out _).mono ?_; rintro e w' ⟨rfl, rfl⟩)
      | (go_at_call 13; refine (HHb.out _).mono ?_; rintro e w' ⟨rfl, rfl⟩)
      | (go_at_call 37; refine (HRr.out _).mono ?_; rintro e w' ⟨rfl, rfl⟩)
      | (go_at_call 15; refine (HK.out _ hB).mono ?_; rintro e w9 ⟨rfl, hb⟩; have hsz := hB.size; have hB := hB.trans (hb.mono (by omega))))
    go_ret
    exact ⟨rfl, hg ▸ hB⟩
set_option maxHeartbeats 4000000 in
theorem rulers_yes_nob_yes (f : Nat) (hf : f < 16) (a b : Int) (hab : ¬ (Hou a ∧ Hou b)) (hha : Hou a) (hnb : ¬ Hou b) (p : Int) (h0 : 0 ≤ p) (h8 : p ≤ 8) (w : World) (LH : LaidH w) :
    Calls Tryd.prog 7 #[.int .i64 ((f : Nat) : Int), .int .i64 p, .agg #[.int .i64 a, .int .i64 b]] w fun e w' => e = .returned (.bool true) ∧ Below w.heap.size w w' := by
  have HK := LH.known
  have HR := hid (fun W (hW : Below w.heap.size w W) => ruler_c f hf W (LH.R.below hW))
  have HFg := hid (fun W => rFigure_yes ((f : Nat) : Int) (by omega) (by omega) W)
  have HRr := hid (fun W => rRuler f hf W)
  obtain ⟨q, hq⟩ : ∃ q, rulN f = q := ⟨_, rfl⟩
  rw [hq] at HR HRr
  have hqq : (((q : Nat) : Int) != ((q : Nat) : Int)) = false := by simp
  clear hq hf
  have HAp := hid (fun W => apart_no a b hab W)
  have HHa := hid (fun W => rHouse_yes a hha W)
  have HHb := hid (fun W => rHouse_no b hnb W)
  clear hab hha hnb
  have HRd := hid (fun W (hW : Below w.heap.size w W) => ruled_c p h0 h8 W (LH.R.below hW))
  have a1 : decide (p < 0) = false := by simp; omega
  have a2 : decide ((8 : Int) < p) = false := by simp; omega
  have HRL := hid (fun k (hk : k < 16) W => rRuler k hk W)
  have hlen1 : 1 ≤ (ruledL p 16).length := by
    have := ruled_some p.toNat (by omega)
    rwa [show ((p.toNat : Nat) : Int) = p by omega] at this
  have hlen2 := ruledL_len p 16
  have H0 := hid (heap_alloc_new w (.cells #[.int .i64 a, .int .i64 b] 77))
  have hB : Below w.heap.size w (w.alloc (.cells #[.int .i64 a, .int .i64 b] 77)) := (Below.refl _ _).alloc (Nat.le_refl _) _
  clear LH 
  obtain ⟨g, hg⟩ : ∃ g, w.heap.size = g := ⟨_, rfl⟩
  go_enter Tryd.func7, Tryd.ntmps7
  go_wp2_with fail
  generalize w.alloc (.cells #[.int .i64 a, .int .i64 b] 77) = w1 at *
  rw [hg] at H0 hB HK HR HRd
  go_wp2_with (first
    | (go_at_call 34; refine (HR.out _ hB).mono ?_; rintro e w2 ⟨rfl, hb⟩; have hsz := hB.size; have H0 := hid (heap_below hb H0.out (heap_lt H0.out)); have hB := hB.trans (hb.mono (by omega)); have c0 : w2.cell? ⟨g, 0, none⟩ = some (.int .i64 a) := (cell_of_row _ _ 0 _ _ (0, 0) H0.out); have c1 : w2.cell? ⟨g, 1, none⟩ = some (.int .i64 b) := (cell_of_row _ _ 1 _ _ (0, 0) H0.out))
    | (go_at_call 35; refine (HRd.out _ hB).mono ?_; rintro e w3 ⟨v, rfl, hR, hb⟩; obtain ⟨G, o, c, rfl, -⟩ := reads_some hR hlen1; have hsz := hB.size; have H0 := hid (heap_below hb H0.out (heap_lt H0.out)); have hB := hB.trans (hb.mono (by omega)); have c0 : w3.cell? ⟨g, 0, none⟩ = some (.int .i64 a) := (cell_of_row _ _ 0 _ _ (0, 0) H0.out); have c1 : w3.cell? ⟨g, 1, none⟩ = some (.int .i64 b) := (cell_of_row _ _ 1 _ _ (0, 0) H0.out))
    | (go_at_call 26; refine (HAp.out _).mono ?_; rintro e w4 ⟨rfl, hb⟩; have hsz := hB.size; have H0 := hid (heap_below hb H0.out (heap_lt H0.out)); have hB := hB.trans (hb.mono (by omega)); have c0 : w4.cell? ⟨g, 0, none⟩ = some (.int .i64 a) := (cell_of_row _ _ 0 _ _ (0, 0) H0.out); have c1 : w4.cell? ⟨g, 1, none⟩ = some (.int .i64 b) := (cell_of_row _ _ 1 _ _ (0, 0) H0.out); have hR := hR.below hb)
    | (go_at_call 36; refine (HFg.out _).mono ?_; rintro e w' ⟨rfl, rfl⟩)
    | (go_at_call 13; refine (HHa.out _).mono ?_; rintro e w' ⟨rfl, rfl⟩)
    | (go_at_call 13; refine (HHb.out _).mono ?_; rintro e w' ⟨rfl, rfl⟩)
    | (go_at_call 37; refine (HRr.out _).mono ?_; rintro e w' ⟨rfl, rfl⟩)
    | fail)
  have hw4 := hB.size
  have HRr2 := hid hR
  clear hR
  go_loopw [14, 15] (fun l i wr => ∃ k : Nat, k ≤ 16 ∧ i = .int .i64 k ∧ Figs wr w4.heap.size l (ruledL p k) ∧ Below w4.heap.size w4 wr) (fun _ i _ => 16 - (intOf i).toNat)
  case atStart => exact ⟨0, by omega, rfl, Figs.made w4 w4.heap.size (Nat.le_refl _), (Below.refl _ _).alloc (Nat.le_refl _) _⟩
  case round =>
    obtain ⟨k, hk, rfl, hI, h2⟩ := hrel
    have hs := h2.size
    have HI := hid hI
    clear hI
    by_cases hlt : k < 16
    · have hlt' : ((k : Nat) : Int) < 16 := by omega
      have hll := ruledL_len p k
      have HRk := hid (HRL.out k hlt)
      obtain ⟨r, hr⟩ : ∃ r, rulN k = r := ⟨_, rfl⟩
      rw [hr] at HRk
      by_cases he : p = ((r : Nat) : Int)
      · have hbe : (((r : Nat) : Int) == p) = true := by rw [he]; simp
        have HST := hid (show ruledL p (k + 1) = ruledL p k ++ [((k : Nat) : Int)] by rw [ruledL, hr, if_pos he])
        clear he hr
        have HI6 := hid (HI.out.below ((Below.refl _ wr).alloc (Nat.le_refl _) (.cells #[.int .i64 ((k : Nat) : Int)] 22)))
        go_wp2_with (first
          | (go_at_call 37; refine (HRk.out _).mono ?_; rintro e w' ⟨rfl, rfl⟩)
          | (at_builtin; go_must (refine wp_append_fig rfl _ _ rfl w4.heap.size _ _ rfl HI6.out ((k : Nat) : Int) wr.heap.size 1 rfl (by simp) (by omega) (by simp; omega) ?_); intro v' w7 ho7 hgr7))
        have hb7 := figs_grown_below (h2.alloc hs (.cells #[.int .i64 ((k : Nat) : Int)] 22)) hgr7 HI6.out (by omega) (by simp; omega)
        go_roundw
        case rel => exact ⟨k + 1, by omega, by go_num, by rw [HST.out]; exact ho7, hb7⟩
        case measure => simp [intOf]; omega
      · have hbe : (((r : Nat) : Int) == p) = false := by
          rw [Bool.eq_false_iff]
          intro h
          exact he (by simpa using (beq_iff_eq.1 h).symm)
        have HST := hid (show ruledL p (k + 1) = ruledL p k by rw [ruledL, hr, if_neg he, List.append_nil])
        clear he hr
        go_wp2_with (go_at_call 37; refine (HRk.out _).mono ?_; rintro e w' ⟨rfl, rfl⟩)
        go_roundw
        case rel => exact ⟨k + 1, by omega, by go_num, by rw [HST.out]; exact HI.out, h2⟩
        case measure => simp [intOf]; omega
    · have hge : ¬ ((k : Nat) : Int) < 16 := by omega
      obtain rfl : k = 16 := by omega
      have hR2 := HI.out.reads
      have hR1 := HRr2.out.below h2
      obtain ⟨G1, o1, c1', e1, hG1, hc1⟩ := reads_some hR1 hlen1
      obtain ⟨G2, o2, c2', e2, hG2, hc2⟩ := reads_some hR2 hlen1
      cases e1
      subst e2
      clear hR1 hR2 HI HRr2
      have hB := hB.trans (h2.mono (by rw [← hg]; exact hw4))
      have HC1 := hid hc1
      have HC2 := hid hc2
      clear hc1 hc2 c0 c1
      obtain ⟨n, hn⟩ : ∃ n, (ruledL p 16).length = n := ⟨_, rfl⟩
      have HN := hid hn
      have hnn : (((n : Nat) : Int) != ((n : Nat) : Int)) = false := by simp
      rw [hn] at hlen1 hlen2 ⊢
      clear hn
      go_wp2_with fail
      go_loopw [16] (fun i wr' => ∃ k m : Nat, k ≤ n ∧ i = .int .i64 k ∧ wr' = wr.drewN m) (fun i _ => n - (intOf i).toNat)
      case atStart => exact ⟨0, 0, by omega, rfl, rfl⟩
      case round =>
        obtain ⟨k, m, hk, rfl, rfl⟩ := hrel
        by_cases hlt : k < n
        · have hlt' : ((k : Nat) : Int) < ((n : Nat) : Int) := by omega
          have hp0 : (0 : Int) ≤ k := by omega
          have k1 := HC1.out k (by rw [HN.out]; exact hlt)
          have k2 := HC2.out k (by rw [HN.out]; exact hlt)
          generalize (ruledL p 16)[k]'(by rw [HN.out]; exact hlt) = z at *
          have hne : (z != z) = false := by simp
          go_wp2_with fail
          go_quiet (fail)
          go_wp2_with fail
          go_roundw
          case rel => exact ⟨k + 1, m + nq, by omega, by go_num, rfl⟩
          case measure => simp [intOf]; omega
        · have hge : ¬ ((k : Nat) : Int) < ((n : Nat) : Int) := by omega
          have hB := below_drewN hB m
          generalize wr.drewN m = w8 at *
          go_wp2_with (go_at_call 15; refine (HK.out _ hB).mono ?_; rintro e w9 ⟨rfl, hb⟩; have hsz := hB.size; have hB := hB.trans (hb.mono (by omega)))
          go_ret
          exact ⟨rfl, hg ▸ hB⟩
set_option maxHeartbeats 4000000 in
theorem rulers_no_yes_no (f : Int) (hf : ¬ Fig f) (x y : Nat) (hx : x < 12) (hy : y < 12) (a b : Int) (ha : a = ((x : Nat) : Int) + 1) (hb' : b = ((y : Nat) : Int) + 1) (p : Int) (hp : p < 0 ∨ 8 < p) (w : World) (LH : LaidH w) :
    Calls Tryd.prog 7 #[.int .i64 f, .int .i64 p, .agg #[.int .i64 a, .int .i64 b]] w fun e w' => e = .returned (.bool true) ∧ Below w.heap.size w w' := by
  have HK := LH.known
  have HR := hid (fun W (_ : Below w.heap.size w W) => ruler_no f hf W)
  have HFg := hid (fun W => rFigure_no f hf W)
  clear hf
  have HAp := hid (fun W => apart_yes x y hx hy a b ha hb' W)
  have HRa := hid (fun W => rApart x y hx hy a b ha hb' W)
  have HHa := hid (fun W => rHouse_yes a (by unfold Hou; omega) W)
  have HHb := hid (fun W => rHouse_yes b (by unfold Hou; omega) W)
  obtain ⟨d, hd⟩ : ∃ d, apN x y = d := ⟨_, rfl⟩
  rw [hd] at HAp HRa
  have hdd : (((d : Nat) : Int) != ((d : Nat) : Int)) = false := by simp
  clear ha hb' hx hy hd
  have HRd := hid (fun W (_ : Below w.heap.size w W) => ruled_no p hp W)
  have a12 : (decide (p < 0) = true) ∨ (decide (p < 0) = false ∧ decide ((8 : Int) < p) = true) := by
    by_cases h : p < 0
    · exact .inl (by simpa using h)
    · exact .inr ⟨by simpa using h, by simp; omega⟩
  have H0 := hid (heap_alloc_new w (.cells #[.int .i64 a, .int .i64 b] 77))
  have hB : Below w.heap.size w (w.alloc (.cells #[.int .i64 a, .int .i64 b] 77)) := (Below.refl _ _).alloc (Nat.le_refl _) _
  clear LH hp
  obtain ⟨g, hg⟩ : ∃ g, w.heap.size = g := ⟨_, rfl⟩
  rcases a12 with a1 | ⟨a1, a2⟩
  all_goals
    go_enter Tryd.func7, Tryd.ntmps7
    go_wp2_with fail
    generalize w.alloc (.cells #[.int .i64 a, .int .i64 b] 77) = w1 at *
    rw [hg] at H0 hB HK HR HRd
    go_wp2_with (first
      | (go_at_call 34; refine (HR.out _ hB).mono ?_; rintro e w2 ⟨rfl, hb⟩; have hsz := hB.size; have H0 := hid (heap_below hb H0.out (heap_lt H0.out)); have hB := hB.trans (hb.mono (by omega)); have c0 : w2.cell? ⟨g, 0, none⟩ = some (.int .i64 a) := (cell_of_row _ _ 0 _ _ (0, 0) H0.out); have c1 : w2.cell? ⟨g, 1, none⟩ = some (.int .i64 b) := (cell_of_row _ _ 1 _ _ (0, 0) H0.out))
      | (go_at_call 35; refine (HRd.out _ hB).mono ?_; rintro e w3 ⟨rfl, hb⟩; have hsz := hB.size; have H0 := hid (heap_below hb H0.out (heap_lt H0.out)); have hB := hB.trans (hb.mono (by omega)); have c0 : w3.cell? ⟨g, 0, none⟩ = some (.int .i64 a) := (cell_of_row _ _ 0 _ _ (0, 0) H0.out); have c1 : w3.cell? ⟨g, 1, none⟩ = some (.int .i64 b) := (cell_of_row _ _ 1 _ _ (0, 0) H0.out))
      | (go_at_call 26; refine (HAp.out _).mono ?_; rintro e w4 ⟨rfl, hb⟩; have hsz := hB.size; have H0 := hid (heap_below hb H0.out (heap_lt H0.out)); have hB := hB.trans (hb.mono (by omega)); have c0 : w4.cell? ⟨g, 0, none⟩ = some (.int .i64 a) := (cell_of_row _ _ 0 _ _ (0, 0) H0.out); have c1 : w4.cell? ⟨g, 1, none⟩ = some (.int .i64 b) := (cell_of_row _ _ 1 _ _ (0, 0) H0.out))
      | (go_at_call 36; refine (HFg.out _).mono ?_; rintro e w' ⟨rfl, rfl⟩)
      | (go_at_call 13; refine (HHa.out _).mono ?_; rintro e w' ⟨rfl, rfl⟩)
      | (go_at_call 13; refine (HHb.out _).mono ?_; rintro e w' ⟨rfl, rfl⟩)
      | (go_at_call 38; refine (HRa.out _).mono ?_; rintro e w' ⟨rfl, rfl⟩)
      | (go_at_call 15; refine (HK.out _ hB).mono ?_; rintro e w9 ⟨rfl, hb⟩; have hsz := hB.size; have hB := hB.trans (hb.mono (by omega))))
    go_ret
    exact ⟨rfl, hg ▸ hB⟩
set_option maxHeartbeats 4000000 in
theorem rulers_no_yes_yes (f : Int) (hf : ¬ Fig f) (x y : Nat) (hx : x < 12) (hy : y < 12) (a b : Int) (ha : a = ((x : Nat) : Int) + 1) (hb' : b = ((y : Nat) : Int) + 1) (p : Int) (h0 : 0 ≤ p) (h8 : p ≤ 8) (w : World) (LH : LaidH w) :
    Calls Tryd.prog 7 #[.int .i64 f, .int .i64 p, .agg #[.int .i64 a, .int .i64 b]] w fun e w' => e = .returned (.bool true) ∧ Below w.heap.size w w' := by
  have HK := LH.known
  have HR := hid (fun W (_ : Below w.heap.size w W) => ruler_no f hf W)
  have HFg := hid (fun W => rFigure_no f hf W)
  clear hf
  have HAp := hid (fun W => apart_yes x y hx hy a b ha hb' W)
  have HRa := hid (fun W => rApart x y hx hy a b ha hb' W)
  have HHa := hid (fun W => rHouse_yes a (by unfold Hou; omega) W)
  have HHb := hid (fun W => rHouse_yes b (by unfold Hou; omega) W)
  obtain ⟨d, hd⟩ : ∃ d, apN x y = d := ⟨_, rfl⟩
  rw [hd] at HAp HRa
  have hdd : (((d : Nat) : Int) != ((d : Nat) : Int)) = false := by simp
  clear ha hb' hx hy hd
  have HRd := hid (fun W (hW : Below w.heap.size w W) => ruled_c p h0 h8 W (LH.R.below hW))
  have a1 : decide (p < 0) = false := by simp; omega
  have a2 : decide ((8 : Int) < p) = false := by simp; omega
  have HRL := hid (fun k (hk : k < 16) W => rRuler k hk W)
  have hlen1 : 1 ≤ (ruledL p 16).length := by
    have := ruled_some p.toNat (by omega)
    rwa [show ((p.toNat : Nat) : Int) = p by omega] at this
  have hlen2 := ruledL_len p 16
  have H0 := hid (heap_alloc_new w (.cells #[.int .i64 a, .int .i64 b] 77))
  have hB : Below w.heap.size w (w.alloc (.cells #[.int .i64 a, .int .i64 b] 77)) := (Below.refl _ _).alloc (Nat.le_refl _) _
  clear LH 
  obtain ⟨g, hg⟩ : ∃ g, w.heap.size = g := ⟨_, rfl⟩
  go_enter Tryd.func7, Tryd.ntmps7
  go_wp2_with fail
  generalize w.alloc (.cells #[.int .i64 a, .int .i64 b] 77) = w1 at *
  rw [hg] at H0 hB HK HR HRd
  go_wp2_with (first
    | (go_at_call 34; refine (HR.out _ hB).mono ?_; rintro e w2 ⟨rfl, hb⟩; have hsz := hB.size; have H0 := hid (heap_below hb H0.out (heap_lt H0.out)); have hB := hB.trans (hb.mono (by omega)); have c0 : w2.cell? ⟨g, 0, none⟩ = some (.int .i64 a) := (cell_of_row _ _ 0 _ _ (0, 0) H0.out); have c1 : w2.cell? ⟨g, 1, none⟩ = some (.int .i64 b) := (cell_of_row _ _ 1 _ _ (0, 0) H0.out))
    | (go_at_call 35; refine (HRd.out _ hB).mono ?_; rintro e w3 ⟨v, rfl, hR, hb⟩; obtain ⟨G, o, c, rfl, -⟩ := reads_some hR hlen1; have hsz := hB.size; have H0 := hid (heap_below hb H0.out (heap_lt H0.out)); have hB := hB.trans (hb.mono (by omega)); have c0 : w3.cell? ⟨g, 0, none⟩ = some (.int .i64 a) := (cell_of_row _ _ 0 _ _ (0, 0) H0.out); have c1 : w3.cell? ⟨g, 1, none⟩ = some (.int .i64 b) := (cell_of_row _ _ 1 _ _ (0, 0) H0.out))
    | (go_at_call 26; refine (HAp.out _).mono ?_; rintro e w4 ⟨rfl, hb⟩; have hsz := hB.size; have H0 := hid (heap_below hb H0.out (heap_lt H0.out)); have hB := hB.trans (hb.mono (by omega)); have c0 : w4.cell? ⟨g, 0, none⟩ = some (.int .i64 a) := (cell_of_row _ _ 0 _ _ (0, 0) H0.out); have c1 : w4.cell? ⟨g, 1, none⟩ = some (.int .i64 b) := (cell_of_row _ _ 1 _ _ (0, 0) H0.out); have hR := hR.below hb)
    | (go_at_call 36; refine (HFg.out _).mono ?_; rintro e w' ⟨rfl, rfl⟩)
    | (go_at_call 13; refine (HHa.out _).mono ?_; rintro e w' ⟨rfl, rfl⟩)
    | (go_at_call 13; refine (HHb.out _).mono ?_; rintro e w' ⟨rfl, rfl⟩)
    | (go_at_call 38; refine (HRa.out _).mono ?_; rintro e w' ⟨rfl, rfl⟩)
    | fail)
  have hw4 := hB.size
  have HRr2 := hid hR
  clear hR
  go_loopw [14, 15] (fun l i wr => ∃ k : Nat, k ≤ 16 ∧ i = .int .i64 k ∧ Figs wr w4.heap.size l (ruledL p k) ∧ Below w4.heap.size w4 wr) (fun _ i _ => 16 - (intOf i).toNat)
  case atStart => exact ⟨0, by omega, rfl, Figs.made w4 w4.heap.size (Nat.le_refl _), (Below.refl _ _).alloc (Nat.le_refl _) _⟩
  case round =>
    obtain ⟨k, hk, rfl, hI, h2⟩ := hrel
    have hs := h2.size
    have HI := hid hI
    clear hI
    by_cases hlt : k < 16
    · have hlt' : ((k : Nat) : Int) < 16 := by omega
      have hll := ruledL_len p k
      have HRk := hid (HRL.out k hlt)
      obtain ⟨r, hr⟩ : ∃ r, rulN k = r := ⟨_, rfl⟩
      rw [hr] at HRk
      by_cases he : p = ((r : Nat) : Int)
      · have hbe : (((r : Nat) : Int) == p) = true := by rw [he]; simp
        have HST := hid (show ruledL p (k + 1) = ruledL p k ++ [((k : Nat) : Int)] by rw [ruledL, hr, if_pos he])
        clear he hr
        have HI6 := hid (HI.out.below ((Below.refl _ wr).alloc (Nat.le_refl _) (.cells #[.int .i64 ((k : Nat) : Int)] 22)))
        go_wp2_with (first
          | (go_at_call 37; refine (HRk.out _).mono ?_; rintro e w' ⟨rfl, rfl⟩)
          | (at_builtin; go_must (refine wp_append_fig rfl _ _ rfl w4.heap.size _ _ rfl HI6.out ((k : Nat) : Int) wr.heap.size 1 rfl (by simp) (by omega) (by simp; omega) ?_); intro v' w7 ho7 hgr7))
        have hb7 := figs_grown_below (h2.alloc hs (.cells #[.int .i64 ((k : Nat) : Int)] 22)) hgr7 HI6.out (by omega) (by simp; omega)
        go_roundw
        case rel => exact ⟨k + 1, by omega, by go_num, by rw [HST.out]; exact ho7, hb7⟩
        case measure => simp [intOf]; omega
      · have hbe : (((r : Nat) : Int) == p) = false := by
          rw [Bool.eq_false_iff]
          intro h
          exact he (by simpa using (beq_iff_eq.1 h).symm)
        have HST := hid (show ruledL p (k + 1) = ruledL p k by rw [ruledL, hr, if_neg he, List.append_nil])
        clear he hr
        go_wp2_with (go_at_call 37; refine (HRk.out _).mono ?_; rintro e w' ⟨rfl, rfl⟩)
        go_roundw
        case rel => exact ⟨k + 1, by omega, by go_num, by rw [HST.out]; exact HI.out, h2⟩
        case measure => simp [intOf]; omega
    · have hge : ¬ ((k : Nat) : Int) < 16 := by omega
      obtain rfl : k = 16 := by omega
      have hR2 := HI.out.reads
      have hR1 := HRr2.out.below h2
      obtain ⟨G1, o1, c1', e1, hG1, hc1⟩ := reads_some hR1 hlen1
      obtain ⟨G2, o2, c2', e2, hG2, hc2⟩ := reads_some hR2 hlen1
      cases e1
      subst e2
      clear hR1 hR2 HI HRr2
      have hB := hB.trans (h2.mono (by rw [← hg]; exact hw4))
      have HC1 := hid hc1
      have HC2 := hid hc2
      clear hc1 hc2 c0 c1
      obtain ⟨n, hn⟩ : ∃ n, (ruledL p 16).length = n := ⟨_, rfl⟩
      have HN := hid hn
      have hnn : (((n : Nat) : Int) != ((n : Nat) : Int)) = false := by simp
      rw [hn] at hlen1 hlen2 ⊢
      clear hn
      go_wp2_with fail
      go_loopw [16] (fun i wr' => ∃ k m : Nat, k ≤ n ∧ i = .int .i64 k ∧ wr' = wr.drewN m) (fun i _ => n - (intOf i).toNat)
      case atStart => exact ⟨0, 0, by omega, rfl, rfl⟩
      case round =>
        obtain ⟨k, m, hk, rfl, rfl⟩ := hrel
        by_cases hlt : k < n
        · have hlt' : ((k : Nat) : Int) < ((n : Nat) : Int) := by omega
          have hp0 : (0 : Int) ≤ k := by omega
          have k1 := HC1.out k (by rw [HN.out]; exact hlt)
          have k2 := HC2.out k (by rw [HN.out]; exact hlt)
          generalize (ruledL p 16)[k]'(by rw [HN.out]; exact hlt) = z at *
          have hne : (z != z) = false := by simp
          go_wp2_with fail
          go_quiet (fail)
          go_wp2_with fail
          go_roundw
          case rel => exact ⟨k + 1, m + nq, by omega, by go_num, rfl⟩
          case measure => simp [intOf]; omega
        · have hge : ¬ ((k : Nat) : Int) < ((n : Nat) : Int) := by omega
          have hB := below_drewN hB m
          generalize wr.drewN m = w8 at *
          go_wp2_with (go_at_call 15; refine (HK.out _ hB).mono ?_; rintro e w9 ⟨rfl, hb⟩; have hsz := hB.size; have hB := hB.trans (hb.mono (by omega)))
          go_ret
          exact ⟨rfl, hg ▸ hB⟩
set_option maxHeartbeats 4000000 in
theorem rulers_no_noa_no (f : Int) (hf : ¬ Fig f) (a b : Int) (hab : ¬ (Hou a ∧ Hou b)) (hna : ¬ Hou a) (p : Int) (hp : p < 0 ∨ 8 < p) (w : World) (LH : LaidH w) :
    Calls Tryd.prog 7 #[.int .i64 f, .int .i64 p, .agg #[.int .i64 a, .int .i64 b]] w fun e w' => e = .returned (.bool true) ∧ Below w.heap.size w w' := by
  have HK := LH.known
  have HR := hid (fun W (_ : Below w.heap.size w W) => ruler_no f hf W)
  have HFg := hid (fun W => rFigure_no f hf W)
  clear hf
  have HAp := hid (fun W => apart_no a b hab W)
  have HHa := hid (fun W => rHouse_no a hna W)
  clear hab hna
  have HRd := hid (fun W (_ : Below w.heap.size w W) => ruled_no p hp W)
  have a12 : (decide (p < 0) = true) ∨ (decide (p < 0) = false ∧ decide ((8 : Int) < p) = true) := by
    by_cases h : p < 0
    · exact .inl (by simpa using h)
    · exact .inr ⟨by simpa using h, by simp; omega⟩
  have H0 := hid (heap_alloc_new w (.cells #[.int .i64 a, .int .i64 b] 77))
  have hB : Below w.heap.size w (w.alloc (.cells #[.int .i64 a, .int .i64 b] 77)) := (Below.refl _ _).alloc (Nat.le_refl _) _
  clear LH hp
  obtain ⟨g, hg⟩ : ∃ g, w.heap.size = g := ⟨_, rfl⟩
  rcases a12 with a1 | ⟨a1, a2⟩
  all_goals
    go_enter Tryd.func7, Tryd.ntmps7
    go_wp2_with fail
    generalize w.alloc (.cells #[.int .i64 a, .int .i64 b] 77) = w1 at *
    rw [hg] at H0 hB HK HR HRd
    go_wp2_with (first
      | (go_at_call 34; refine (HR.out _ hB).mono ?_; rintro e w2 ⟨rfl, hb⟩; have hsz := hB.size; have H0 := hid (heap_below hb H0.out (heap_lt H0.out)); have hB := hB.trans (hb.mono (by omega)); have c0 : w2.cell? ⟨g, 0, none⟩ = some (.int .i64 a) := (cell_of_row _ _ 0 _ _ (0, 0) H0.out); have c1 : w2.cell? ⟨g, 1, none⟩ = some (.int .i64 b) := (cell_of_row _ _ 1 _ _ (0, 0) H0.out))
      | (go_at_call 35; refine (HRd.out _ hB).mono ?_; rintro e w3 ⟨rfl, hb⟩; have hsz := hB.size; have H0 := hid (heap_below hb H0.out (heap_lt H0.out)); have hB := hB.trans (hb.mono (by omega)); have c0 : w3.cell? ⟨g, 0, none⟩ = some (.int .i64 a) := (cell_of_row _ _ 0 _ _ (0, 0) H0.out); have c1 : w3.cell? ⟨g, 1, none⟩ = some (.int .i64 b) := (cell_of_row _ _ 1 _ _ (0, 0) H0.out))
      | (go_at_call 26; refine (HAp.out _).mono ?_; rintro e w4 ⟨rfl, hb⟩; have hsz := hB.size; have H0 := hid (heap_below hb H0.out (heap_lt H0.out)); have hB := hB.trans (hb.mono (by omega)); have c0 : w4.cell? ⟨g, 0, none⟩ = some (.int .i64 a) := (cell_of_row _ _ 0 _ _ (0, 0) H0.out); have c1 : w4.cell? ⟨g, 1, none⟩ = some (.int .i64 b) := (cell_of_row _ _ 1 _ _ (0, 0) H0.out))
      | (go_at_call 36; refine (HFg.out _).mono ?_; rintro e w' ⟨rfl, rfl⟩)
      | (go_at_call 13; refine (HHa.out _).mono ?_; rintro e w' ⟨rfl, rfl⟩)
      | (go_at_call 15; refine (HK.out _ hB).mono ?_; rintro e w9 ⟨rfl, hb⟩; have hsz := hB.size; have hB := hB.trans (hb.mono (by omega))))
    go_ret
    exact ⟨rfl, hg ▸ hB⟩
set_option maxHeartbeats 4000000 in
theorem rulers_no_noa_yes (f : Int) (hf : ¬ Fig f) (a b : Int) (hab : ¬ (Hou a ∧ Hou b)) (hna : ¬ Hou a) (p : Int) (h0 : 0 ≤ p) (h8 : p ≤ 8) (w : World) (LH : LaidH w) :
    Calls Tryd.prog 7 #[.int .i64 f, .int .i64 p, .agg #[.int .i64 a, .int .i64 b]] w fun e w' => e = .returned (.bool true) ∧ Below w.heap.size w w' := by
  have HK := LH.known
  have HR := hid (fun W (_ : Below w.heap.size w W) => ruler_no f hf W)
  have HFg := hid (fun W => rFigure_no f hf W)
  clear hf
  have HAp := hid (fun W => apart_no a b hab W)
  have HHa := hid (fun W => rHouse_no a hna W)
  clear hab hna
  have HRd := hid (fun W (hW : Below w.heap.size w W) => ruled_c p h0 h8 W (LH.R.below hW))
  have a1 : decide (p < 0) = false := by simp; omega
  have a2 : decide ((8 : Int) < p) = false := by simp; omega
  have HRL := hid (fun k (hk : k < 16) W => rRuler k hk W)
  have hlen1 : 1 ≤ (ruledL p 16).length := by
    have := ruled_some p.toNat (by omega)
    rwa [show ((p.toNat : Nat) : Int) = p by omega] at this
  have hlen2 := ruledL_len p 16
  have H0 := hid (heap_alloc_new w (.cells #[.int .i64 a, .int .i64 b] 77))
  have hB : Below w.heap.size w (w.alloc (.cells #[.int .i64 a, .int .i64 b] 77)) := (Below.refl _ _).alloc (Nat.le_refl _) _
  clear LH 
  obtain ⟨g, hg⟩ : ∃ g, w.heap.size = g := ⟨_, rfl⟩
  go_enter Tryd.func7, Tryd.ntmps7
  go_wp2_with fail
  generalize w.alloc (.cells #[.int .i64 a, .int .i64 b] 77) = w1 at *
  rw [hg] at H0 hB HK HR HRd
  go_wp2_with (first
    | (go_at_call 34; refine (HR.out _ hB).mono ?_; rintro e w2 ⟨rfl, hb⟩; have hsz := hB.size; have H0 := hid (heap_below hb H0.out (heap_lt H0.out)); have hB := hB.trans (hb.mono (by omega)); have c0 : w2.cell? ⟨g, 0, none⟩ = some (.int .i64 a) := (cell_of_row _ _ 0 _ _ (0, 0) H0.out); have c1 : w2.cell? ⟨g, 1, none⟩ = some (.int .i64 b) := (cell_of_row _ _ 1 _ _ (0, 0) H0.out))
    | (go_at_call 35; refine (HRd.out _ hB).mono ?_; rintro e w3 ⟨v, rfl, hR, hb⟩; obtain ⟨G, o, c, rfl, -⟩ := reads_some hR hlen1; have hsz := hB.size; have H0 := hid (heap_below hb H0.out (heap_lt H0.out)); have hB := hB.trans (hb.mono (by omega)); have c0 : w3.cell? ⟨g, 0, none⟩ = some (.int .i64 a) := (cell_of_row _ _ 0 _ _ (0, 0) H0.out); have c1 : w3.cell? ⟨g, 1, none⟩ = some (.int .i64 b) := (cell_of_row _ _ 1 _ _ (0, 0) H0.out))
    | (go_at_call 26; refine (HAp.out _).mono ?_; rintro e w4 ⟨rfl, hb⟩; have hsz := hB.size; have H0 := hid (heap_below hb H0.out (heap_lt H0.out)); have hB := hB.trans (hb.mono (by omega)); have c0 : w4.cell? ⟨g, 0, none⟩ = some (.int .i64 a) := (cell_of_row _ _ 0 _ _ (0, 0) H0.out); have c1 : w4.cell? ⟨g, 1, none⟩ = some (.int .i64 b) := (cell_of_row _ _ 1 _ _ (0, 0) H0.out); have hR := hR.below hb)
    | (go_at_call 36; refine (HFg.out _).mono ?_; rintro e w' ⟨rfl, rfl⟩)
    | (go_at_call 13; refine (HHa.out _).mono ?_; rintro e w' ⟨rfl, rfl⟩)
    | fail)
  have hw4 := hB.size
  have HRr2 := hid hR
  clear hR
  go_loopw [14, 15] (fun l i wr => ∃ k : Nat, k ≤ 16 ∧ i = .int .i64 k ∧ Figs wr w4.heap.size l (ruledL p k) ∧ Below w4.heap.size w4 wr) (fun _ i _ => 16 - (intOf i).toNat)
  case atStart => exact ⟨0, by omega, rfl, Figs.made w4 w4.heap.size (Nat.le_refl _), (Below.refl _ _).alloc (Nat.le_refl _) _⟩
  case round =>
    obtain ⟨k, hk, rfl, hI, h2⟩ := hrel
    have hs := h2.size
    have HI := hid hI
    clear hI
    by_cases hlt : k < 16
    · have hlt' : ((k : Nat) : Int) < 16 := by omega
      have hll := ruledL_len p k
      have HRk := hid (HRL.out k hlt)
      obtain ⟨r, hr⟩ : ∃ r, rulN k = r := ⟨_, rfl⟩
      rw [hr] at HRk
      by_cases he : p = ((r : Nat) : Int)
      · have hbe : (((r : Nat) : Int) == p) = true := by rw [he]; simp
        have HST := hid (show ruledL p (k + 1) = ruledL p k ++ [((k : Nat) : Int)] by rw [ruledL, hr, if_pos he])
        clear he hr
        have HI6 := hid (HI.out.below ((Below.refl _ wr).alloc (Nat.le_refl _) (.cells #[.int .i64 ((k : Nat) : Int)] 22)))
        go_wp2_with (first
          | (go_at_call 37; refine (HRk.out _).mono ?_; rintro e w' ⟨rfl, rfl⟩)
          | (at_builtin; go_must (refine wp_append_fig rfl _ _ rfl w4.heap.size _ _ rfl HI6.out ((k : Nat) : Int) wr.heap.size 1 rfl (by simp) (by omega) (by simp; omega) ?_); intro v' w7 ho7 hgr7))
        have hb7 := figs_grown_below (h2.alloc hs (.cells #[.int .i64 ((k : Nat) : Int)] 22)) hgr7 HI6.out (by omega) (by simp; omega)
        go_roundw
        case rel => exact ⟨k + 1, by omega, by go_num, by rw [HST.out]; exact ho7, hb7⟩
        case measure => simp [intOf]; omega
      · have hbe : (((r : Nat) : Int) == p) = false := by
          rw [Bool.eq_false_iff]
          intro h
          exact he (by simpa using (beq_iff_eq.1 h).symm)
        have HST := hid (show ruledL p (k + 1) = ruledL p k by rw [ruledL, hr, if_neg he, List.append_nil])
        clear he hr
        go_wp2_with (go_at_call 37; refine (HRk.out _).mono ?_; rintro e w' ⟨rfl, rfl⟩)
        go_roundw
        case rel => exact ⟨k + 1, by omega, by go_num, by rw [HST.out]; exact HI.out, h2⟩
        case measure => simp [intOf]; omega
    · have hge : ¬ ((k : Nat) : Int) < 16 := by omega
      obtain rfl : k = 16 := by omega
      have hR2 := HI.out.reads
      have hR1 := HRr2.out.below h2
      obtain ⟨G1, o1, c1', e1, hG1, hc1⟩ := reads_some hR1 hlen1
      obtain ⟨G2, o2, c2', e2, hG2, hc2⟩ := reads_some hR2 hlen1
      cases e1
      subst e2
      clear hR1 hR2 HI HRr2
      have hB := hB.trans (h2.mono (by rw [← hg]; exact hw4))
      have HC1 := hid hc1
      have HC2 := hid hc2
      clear hc1 hc2 c0 c1
      obtain ⟨n, hn⟩ : ∃ n, (ruledL p 16).length = n := ⟨_, rfl⟩
      have HN := hid hn
      have hnn : (((n : Nat) : Int) != ((n : Nat) : Int)) = false := by simp
      rw [hn] at hlen1 hlen2 ⊢
      clear hn
      go_wp2_with fail
      go_loopw [16] (fun i wr' => ∃ k m : Nat, k ≤ n ∧ i = .int .i64 k ∧ wr' = wr.drewN m) (fun i _ => n - (intOf i).toNat)
      case atStart => exact ⟨0, 0, by omega, rfl, rfl⟩
      case round =>
        obtain ⟨k, m, hk, rfl, rfl⟩ := hrel
        by_cases hlt : k < n
        · have hlt' : ((k : Nat) : Int) < ((n : Nat) : Int) := by omega
          have hp0 : (0 : Int) ≤ k := by omega
          have k1 := HC1.out k (by rw [HN.out]; exact hlt)
          have k2 := HC2.out k (by rw [HN.out]; exact hlt)
          generalize (ruledL p 16)[k]'(by rw [HN.out]; exact hlt) = z at *
          have hne : (z != z) = false := by simp
          go_wp2_with fail
          go_quiet (fail)
          go_wp2_with fail
          go_roundw
          case rel => exact ⟨k + 1, m + nq, by omega, by go_num, rfl⟩
          case measure => simp [intOf]; omega
        · have hge : ¬ ((k : Nat) : Int) < ((n : Nat) : Int) := by omega
          have hB := below_drewN hB m
          generalize wr.drewN m = w8 at *
          go_wp2_with (go_at_call 15; refine (HK.out _ hB).mono ?_; rintro e w9 ⟨rfl, hb⟩; have hsz := hB.size; have hB := hB.trans (hb.mono (by omega)))
          go_ret
          exact ⟨rfl, hg ▸ hB⟩
set_option maxHeartbeats 4000000 in
theorem rulers_no_nob_no (f : Int) (hf : ¬ Fig f) (a b : Int) (hab : ¬ (Hou a ∧ Hou b)) (hha : Hou a) (hnb : ¬ Hou b) (p : Int) (hp : p < 0 ∨ 8 < p) (w : World) (LH : LaidH w) :
    Calls Tryd.prog 7 #[.int .i64 f, .int .i64 p, .agg #[.int .i64 a, .int .i64 b]] w fun e w' => e = .returned (.bool true) ∧ Below w.heap.size w w' := by
  have HK := LH.known
  have HR := hid (fun W (_ : Below w.heap.size w W) => ruler_no f hf W)
  have HFg := hid (fun W => rFigure_no f hf W)
  clear hf
  have HAp := hid (fun W => apart_no a b hab W)
  have HHa := hid (fun W => rHouse_yes a hha W)
  have HHb := hid (fun W => rHouse_no b hnb W)
  clear hab hha hnb
  have HRd := hid (fun W (_ : Below w.heap.size w W) => ruled_no p hp W)
  have a12 : (decide (p < 0) = true) ∨ (decide (p < 0) = false ∧ decide ((8 : Int) < p) = true) := by
    by_cases h : p < 0
    · exact .inl (by simpa using h)
    · exact .inr ⟨by simpa using h, by simp; omega⟩
  have H0 := hid (heap_alloc_new w (.cells #[.int .i64 a, .int .i64 b] 77))
  have hB : Below w.heap.size w (w.alloc (.cells #[.int .i64 a, .int .i64 b] 77)) := (Below.refl _ _).alloc (Nat.le_refl _) _
  clear LH hp
  obtain ⟨g, hg⟩ : ∃ g, w.heap.size = g := ⟨_, rfl⟩
  rcases a12 with a1 | ⟨a1, a2⟩
  all_goals
    go_enter Tryd.func7, Tryd.ntmps7
    go_wp2_with fail
    generalize w.alloc (.cells #[.int .i64 a, .int .i64 b] 77) = w1 at *
    rw [hg] at H0 hB HK HR HRd
    go_wp2_with (first
      | (go_at_call 34; refine (HR.out _ hB).mono ?_; rintro e w2 ⟨rfl, hb⟩; have hsz := hB.size; have H0 := hid (heap_below hb H0.out (heap_lt H0.out)); have hB := hB.trans (hb.mono (by omega)); have c0 : w2.cell? ⟨g, 0, none⟩ = some (.int .i64 a) := (cell_of_row _ _ 0 _ _ (0, 0) H0.out); have c1 : w2.cell? ⟨g, 1, none⟩ = some (.int .i64 b) := (cell_of_row _ _ 1 _ _ (0, 0) H0.out))
      | (go_at_call 35; refine (HRd.out _ hB).mono ?_; rintro e w3 ⟨rfl, hb⟩; have hsz := hB.size; have H0 := hid (heap_below hb H0.out (heap_lt H0.out)); have hB := hB.trans (hb.mono (by omega)); have c0 : w3.cell? ⟨g, 0, none⟩ = some (.int .i64 a) := (cell_of_row _ _ 0 _ _ (0, 0) H0.out); have c1 : w3.cell? ⟨g, 1, none⟩ = some (.int .i64 b) := (cell_of_row _ _ 1 _ _ (0, 0) H0.out))
      | (go_at_call 26; refine (HAp.out _).mono ?_; rintro e w4 ⟨rfl, hb⟩; have hsz := hB.size; have H0 := hid (heap_below hb H0.out (heap_lt H0.out)); have hB := hB.trans (hb.mono (by omega)); have c0 : w4.cell? ⟨g, 0, none⟩ = some (.int .i64 a) := (cell_of_row _ _ 0 _ _ (0, 0) H0.out); have c1 : w4.cell? ⟨g, 1, none⟩ = some (.int .i64 b) := (cell_of_row _ _ 1 _ _ (0, 0) H0.out))
      | (go_at_call 36; refine (HFg.out _).mono ?_; rintro e w' ⟨rfl, rfl⟩)
      | (go_at_call 13; refine (HHa.out _).mono ?_; rintro e w' ⟨rfl, rfl⟩)
      | (go_at_call 13; refine (HHb.out _).mono ?_; rintro e w' ⟨rfl, rfl⟩)
      | (go_at_call 15; refine (HK.out _ hB).mono ?_; rintro e w9 ⟨rfl, hb⟩; have hsz := hB.size; have hB := hB.trans (hb.mono (by omega))))
    go_ret
    exact ⟨rfl, hg ▸ hB⟩
set_option maxHeartbeats 4000000 in
theorem rulers_no_nob_yes (f : Int) (hf : ¬ Fig f) (a b : Int) (hab : ¬ (Hou a ∧ Hou b)) (hha : Hou a) (hnb : ¬ Hou b) (p : Int) (h0 : 0 ≤ p) (h8 : p ≤ 8) (w : World) (LH : LaidH w) :
    Calls Tryd.prog 7 #[.int .i64 f, .int .i64 p, .agg #[.int .i64 a, .int .i64 b]] w fun e w' => e = .returned (.bool true) ∧ Below w.heap.size w w' := by
  have HK := LH.known
  have HR := hid (fun W (_ : Below w.heap.size w W) => ruler_no f hf W)
  have HFg := hid (fun W => rFigure_no f hf W)
  clear hf
  have HAp := hid (fun W => apart_no a b hab W)
  have HHa := hid (fun W => rHouse_yes a hha W)
  have HHb := hid (fun W => rHouse_no b hnb W)
  clear hab hha hnb
  have HRd := hid (fun W (hW : Below w.heap.size w W) => ruled_c p h0 h8 W (LH.R.below hW))
  have a1 : decide (p < 0) = false := by simp; omega
  have a2 : decide ((8 : Int) < p) = false := by simp; omega
  have HRL := hid (fun k (hk : k < 16) W => rRuler k hk W)
  have hlen1 : 1 ≤ (ruledL p 16).length := by
    have := ruled_some p.toNat (by omega)
    rwa [show ((p.toNat : Nat) : Int) = p by omega] at this
  have hlen2 := ruledL_len p 16
  have H0 := hid (heap_alloc_new w (.cells #[.int .i64 a, .int .i64 b] 77))
  have hB : Below w.heap.size w (w.alloc (.cells #[.int .i64 a, .int .i64 b] 77)) := (Below.refl _ _).alloc (Nat.le_refl _) _
  clear LH 
  obtain ⟨g, hg⟩ : ∃ g, w.heap.size = g := ⟨_, rfl⟩
  go_enter Tryd.func7, Tryd.ntmps7
  go_wp2_with fail
  generalize w.alloc (.cells #[.int .i64 a, .int .i64 b] 77) = w1 at *
  rw [hg] at H0 hB HK HR HRd
  go_wp2_with (first
    | (go_at_call 34; refine (HR.out _ hB).mono ?_; rintro e w2 ⟨rfl, hb⟩; have hsz := hB.size; have H0 := hid (heap_below hb H0.out (heap_lt H0.out)); have hB := hB.trans (hb.mono (by omega)); have c0 : w2.cell? ⟨g, 0, none⟩ = some (.int .i64 a) := (cell_of_row _ _ 0 _ _ (0, 0) H0.out); have c1 : w2.cell? ⟨g, 1, none⟩ = some (.int .i64 b) := (cell_of_row _ _ 1 _ _ (0, 0) H0.out))
    | (go_at_call 35; refine (HRd.out _ hB).mono ?_; rintro e w3 ⟨v, rfl, hR, hb⟩; obtain ⟨G, o, c, rfl, -⟩ := reads_some hR hlen1; have hsz := hB.size; have H0 := hid (heap_below hb H0.out (heap_lt H0.out)); have hB := hB.trans (hb.mono (by omega)); have c0 : w3.cell? ⟨g, 0, none⟩ = some (.int .i64 a) := (cell_of_row _ _ 0 _ _ (0, 0) H0.out); have c1 : w3.cell? ⟨g, 1, none⟩ = some (.int .i64 b) := (cell_of_row _ _ 1 _ _ (0, 0) H0.out))
    | (go_at_call 26; refine (HAp.out _).mono ?_; rintro e w4 ⟨rfl, hb⟩; have hsz := hB.size; have H0 := hid (heap_below hb H0.out (heap_lt H0.out)); have hB := hB.trans (hb.mono (by omega)); have c0 : w4.cell? ⟨g, 0, none⟩ = some (.int .i64 a) := (cell_of_row _ _ 0 _ _ (0, 0) H0.out); have c1 : w4.cell? ⟨g, 1, none⟩ = some (.int .i64 b) := (cell_of_row _ _ 1 _ _ (0, 0) H0.out); have hR := hR.below hb)
    | (go_at_call 36; refine (HFg.out _).mono ?_; rintro e w' ⟨rfl, rfl⟩)
    | (go_at_call 13; refine (HHa.out _).mono ?_; rintro e w' ⟨rfl, rfl⟩)
    | (go_at_call 13; refine (HHb.out _).mono ?_; rintro e w' ⟨rfl, rfl⟩)
    | fail)
  have hw4 := hB.size
  have HRr2 := hid hR
  clear hR
  go_loopw [14, 15] (fun l i wr => ∃ k : Nat, k ≤ 16 ∧ i = .int .i64 k ∧ Figs wr w4.heap.size l (ruledL p k) ∧ Below w4.heap.size w4 wr) (fun _ i _ => 16 - (intOf i).toNat)
  case atStart => exact ⟨0, by omega, rfl, Figs.made w4 w4.heap.size (Nat.le_refl _), (Below.refl _ _).alloc (Nat.le_refl _) _⟩
  case round =>
    obtain ⟨k, hk, rfl, hI, h2⟩ := hrel
    have hs := h2.size
    have HI := hid hI
    clear hI
    by_cases hlt : k < 16
    · have hlt' : ((k : Nat) : Int) < 16 := by omega
      have hll := ruledL_len p k
      have HRk := hid (HRL.out k hlt)
      obtain ⟨r, hr⟩ : ∃ r, rulN k = r := ⟨_, rfl⟩
      rw [hr] at HRk
      by_cases he : p = ((r : Nat) : Int)
      · have hbe : (((r : Nat) : Int) == p) = true := by rw [he]; simp
        have HST := hid (show ruledL p (k + 1) = ruledL p k ++ [((k : Nat) : Int)] by rw [ruledL, hr, if_pos he])
        clear he hr
        have HI6 := hid (HI.out.below ((Below.refl _ wr).alloc (Nat.le_refl _) (.cells #[.int .i64 ((k : Nat) : Int)] 22)))
        go_wp2_with (first
          | (go_at_call 37; refine (HRk.out _).mono ?_; rintro e w' ⟨rfl, rfl⟩)
          | (at_builtin; go_must (refine wp_append_fig rfl _ _ rfl w4.heap.size _ _ rfl HI6.out ((k : Nat) : Int) wr.heap.size 1 rfl (by simp) (by omega) (by simp; omega) ?_); intro v' w7 ho7 hgr7))
        have hb7 := figs_grown_below (h2.alloc hs (.cells #[.int .i64 ((k : Nat) : Int)] 22)) hgr7 HI6.out (by omega) (by simp; omega)
        go_roundw
        case rel => exact ⟨k + 1, by omega, by go_num, by rw [HST.out]; exact ho7, hb7⟩
        case measure => simp [intOf]; omega
      · have hbe : (((r : Nat) : Int) == p) = false := by
          rw [Bool.eq_false_iff]
          intro h
          exact he (by simpa using (beq_iff_eq.1 h).symm)
        have HST := hid (show ruledL p (k + 1) = ruledL p k by rw [ruledL, hr, if_neg he, List.append_nil])
        clear he hr
        go_wp2_with (go_at_call 37; refine (HRk.out _).mono ?_; rintro e w' ⟨rfl, rfl⟩)
        go_roundw
        case rel => exact ⟨k + 1, by omega, by go_num, by rw [HST.out]; exact HI.out, h2⟩
        case measure => simp [intOf]; omega
    · have hge : ¬ ((k : Nat) : Int) < 16 := by omega
      obtain rfl : k = 16 := by omega
      have hR2 := HI.out.reads
      have hR1 := HRr2.out.below h2
      obtain ⟨G1, o1, c1', e1, hG1, hc1⟩ := reads_some hR1 hlen1
      obtain ⟨G2, o2, c2', e2, hG2, hc2⟩ := reads_some hR2 hlen1
      cases e1
      subst e2
      clear hR1 hR2 HI HRr2
      have hB := hB.trans (h2.mono (by rw [← hg]; exact hw4))
      have HC1 := hid hc1
      have HC2 := hid hc2
      clear hc1 hc2 c0 c1
      obtain ⟨n, hn⟩ : ∃ n, (ruledL p 16).length = n := ⟨_, rfl⟩
      have HN := hid hn
      have hnn : (((n : Nat) : Int) != ((n : Nat) : Int)) = false := by simp
      rw [hn] at hlen1 hlen2 ⊢
      clear hn
      go_wp2_with fail
      go_loopw [16] (fun i wr' => ∃ k m : Nat, k ≤ n ∧ i = .int .i64 k ∧ wr' = wr.drewN m) (fun i _ => n - (intOf i).toNat)
      case atStart => exact ⟨0, 0, by omega, rfl, rfl⟩
      case round =>
        obtain ⟨k, m, hk, rfl, rfl⟩ := hrel
        by_cases hlt : k < n
        · have hlt' : ((k : Nat) : Int) < ((n : Nat) : Int) := by omega
          have hp0 : (0 : Int) ≤ k := by omega
          have k1 := HC1.out k (by rw [HN.out]; exact hlt)
          have k2 := HC2.out k (by rw [HN.out]; exact hlt)
          generalize (ruledL p 16)[k]'(by rw [HN.out]; exact hlt) = z at *
          have hne : (z != z) = false := by simp
          go_wp2_with fail
          go_quiet (fail)
          go_wp2_with fail
          go_roundw
          case rel => exact ⟨k + 1, m + nq, by omega, by go_num, rfl⟩
          case measure => simp [intOf]; omega
        · have hge : ¬ ((k : Nat) : Int) < ((n : Nat) : Int) := by omega
          have hB := below_drewN hB m
          generalize wr.drewN m = w8 at *
          go_wp2_with (go_at_call 15; refine (HK.out _ hB).mono ?_; rintro e w9 ⟨rfl, hb⟩; have hsz := hB.size; have hB := hB.trans (hb.mono (by omega)))
          go_ret
          exact ⟨rfl, hg ▸ hB⟩
theorem lawRulers (f p : Int) (S : Nat → Int) (w : World) (LH : LaidH w) :
    Calls Tryd.prog 7 #[.int .i64 f, .int .i64 p, .agg (irow 2 S)] w fun e w' => e = .returned (.bool true) ∧ Below w.heap.size w w' := by
  rw [show irow 2 S = #[.int .i64 (S 0), .int .i64 (S 1)] from rfl]
  generalize S 0 = a
  generalize S 1 = b
  have hp : (p < 0 ∨ 8 < p) ∨ (0 ≤ p ∧ p ≤ 8) := by omega
  by_cases hf : Fig f
  · obtain ⟨n, rfl⟩ : ∃ n : Nat, f = ((n : Nat) : Int) := ⟨f.toNat, by have := hf.1; omega⟩
    have hn : n < 16 := by have := hf.2; omega
    by_cases ha : Hou a
    · by_cases hb : Hou b
      · obtain ⟨x, hx⟩ : ∃ x : Nat, a = ((x : Nat) : Int) + 1 := ⟨(a - 1).toNat, by have := ha.1; omega⟩
        obtain ⟨y, hy⟩ : ∃ y : Nat, b = ((y : Nat) : Int) + 1 := ⟨(b - 1).toNat, by have := hb.1; omega⟩
        have h1 : x < 12 := by have := ha.2; omega
        have h2 : y < 12 := by have := hb.2; omega
        rcases hp with hp | ⟨h0, h8⟩
        · exact rulers_yes_yes_no n hn x y h1 h2 a b hx hy p hp w LH
        · exact rulers_yes_yes_yes n hn x y h1 h2 a b hx hy p h0 h8 w LH
      · rcases hp with hp | ⟨h0, h8⟩
        · exact rulers_yes_nob_no n hn a b (fun h => hb h.2) ha hb p hp w LH
        · exact rulers_yes_nob_yes n hn a b (fun h => hb h.2) ha hb p h0 h8 w LH
    · rcases hp with hp | ⟨h0, h8⟩
      · exact rulers_yes_noa_no n hn a b (fun h => ha h.1) ha p hp w LH
      · exact rulers_yes_noa_yes n hn a b (fun h => ha h.1) ha p h0 h8 w LH
  · by_cases ha : Hou a
    · by_cases hb : Hou b
      · obtain ⟨x, hx⟩ : ∃ x : Nat, a = ((x : Nat) : Int) + 1 := ⟨(a - 1).toNat, by have := ha.1; omega⟩
        obtain ⟨y, hy⟩ : ∃ y : Nat, b = ((y : Nat) : Int) + 1 := ⟨(b - 1).toNat, by have := hb.1; omega⟩
        have h1 : x < 12 := by have := ha.2; omega
        have h2 : y < 12 := by have := hb.2; omega
        rcases hp with hp | ⟨h0, h8⟩
        · exact rulers_no_yes_no f hf x y h1 h2 a b hx hy p hp w LH
        · exact rulers_no_yes_yes f hf x y h1 h2 a b hx hy p h0 h8 w LH
      · rcases hp with hp | ⟨h0, h8⟩
        · exact rulers_no_nob_no f hf a b (fun h => hb h.2) ha hb p hp w LH
        · exact rulers_no_nob_yes f hf a b (fun h => hb h.2) ha hb p h0 h8 w LH
    · rcases hp with hp | ⟨h0, h8⟩
      · exact rulers_no_noa_no f hf a b (fun h => ha h.1) ha p hp w LH
      · exact rulers_no_noa_yes f hf a b (fun h => ha h.1) ha p h0 h8 w LH
end Go.Proofs.YtcdbkgpgjjeoiaaDoor
