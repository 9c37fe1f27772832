/- Walks of the reference of chapter 5: House, Houses, At, Ruler, Partner, Company, Marks, Apart, Next. -/
import Derived.Test.YtcdbkgpgjjeoiaaDoorR4
import Derived.Test.YtcdbkgpgjjeoiaaDoorH7
import Derived.Test.YtcdbkgpgjjeoiaaDoorH4
import Derived.Test.YtcdbkgpgjjeoiaaDoorHW6
namespace Go.Proofs.YtcdbkgpgjjeoiaaDoor
open Go Go.RowKit
set_option maxRecDepth 100000

theorem rHouse_yes (n : Int) (h : Hou n) (w : World) : Calls Tryd.prog 13 #[.int .i64 n] w fun e w' => e = .returned (.bool true) ∧ w = w' := by
  unfold Hou at h
  have a1 : decide (1 ≤ n) = true := by simp; omega
  have a2 : decide (n ≤ 12) = true := by simp; omega
  go_enter Tryd.func13, Tryd.ntmps13
  go_wp2
  go_ret
  exact ⟨rfl, rfl⟩
theorem rHouse_no (n : Int) (h : ¬ Hou n) (w : World) : Calls Tryd.prog 13 #[.int .i64 n] w fun e w' => e = .returned (.bool false) ∧ w = w' := by
  unfold Hou at h
  by_cases h0 : 1 ≤ n
  · have a1 : decide (1 ≤ n) = true := by simp; omega
    have a2 : decide (n ≤ 12) = false := by simp; omega
    go_enter Tryd.func13, Tryd.ntmps13
    go_wp2
    go_ret
    exact ⟨rfl, rfl⟩
  · have a1 : decide (1 ≤ n) = false := by simp; omega
    go_enter Tryd.func13, Tryd.ntmps13
    go_wp2
    go_ret
    exact ⟨rfl, rfl⟩
set_option maxHeartbeats 400000 in
theorem rHouses_yes (S : Nat → Int) (hS : ∀ i, i < 12 → Fig (S i)) (w : World) : Calls Tryd.prog 14 #[.agg (irow 12 S)] w fun e w' => e = .returned (.bool true) ∧ Below w.heap.size w w' := by
  have h0 := heap_alloc_new w (.cells (irow 12 S) 24)
  have hb : Below w.heap.size w (w.alloc (.cells (irow 12 S) 24)) := (Below.refl _ _).alloc (Nat.le_refl _) _
  have HH := hid hS
  clear hS
  go_enter Tryd.func14, Tryd.ntmps14
  go_wp2_with fail
  generalize w.alloc (.cells (irow 12 S) 24) = w1 at *
  generalize hg : w.heap.size = g at *
  go_loop [3] (fun i => ∃ k : Nat, k ≤ 12 ∧ i = .int .i64 k) (fun i => 12 - (intOf i).toNat)
  case atStart => exact ⟨0, by omega, rfl⟩
  case round =>
    obtain ⟨k, hk, rfl⟩ := hrel
    by_cases hlt : k < 12
    · have hlt' : ((k : Nat) : Int) < 12 := by omega
      have hp0 : (0 : Int) ≤ k := by omega
      have hc := cell_irow h0 k hlt
      have hf := HH.out k hlt
      generalize S k = f at *
      have HF := hid (rFigure_yes f hf.1 hf.2)
      go_wp2_with (go_at_call 36; refine (HF.out _).mono ?_; rintro e w' ⟨rfl, rfl⟩)
      go_round
      case rel => exact ⟨k + 1, by omega, by go_num⟩
      case measure => simp [intOf]; omega
    · have hge : ¬ ((k : Nat) : Int) < 12 := by omega
      go_wp2_with fail
      go_ret
      exact ⟨rfl, hg ▸ hb⟩
set_option maxHeartbeats 400000 in
theorem rHouses_no (S : Nat → Int) (hS : ¬ ∀ i, i < 12 → Fig (S i)) (w : World) : Calls Tryd.prog 14 #[.agg (irow 12 S)] w fun e w' => e = .returned (.bool false) ∧ Below w.heap.size w w' := by
  have h0 := heap_alloc_new w (.cells (irow 12 S) 24)
  have hb : Below w.heap.size w (w.alloc (.cells (irow 12 S) 24)) := (Below.refl _ _).alloc (Nat.le_refl _) _
  have HH := hid hS
  clear hS
  go_enter Tryd.func14, Tryd.ntmps14
  go_wp2_with fail
  generalize w.alloc (.cells (irow 12 S) 24) = w1 at *
  generalize hg : w.heap.size = g at *
  go_loop [3] (fun i => ∃ k : Nat, k ≤ 12 ∧ i = .int .i64 k ∧ Aside (∀ j, j < k → Fig (S j))) (fun i => 12 - (intOf i).toNat)
  case atStart => exact ⟨0, by omega, rfl, fun j h => absurd h (by omega)⟩
  case round =>
    obtain ⟨k, hk, rfl, A⟩ := hrel
    by_cases hlt : k < 12
    · have hlt' : ((k : Nat) : Int) < 12 := by omega
      have hp0 : (0 : Int) ≤ k := by omega
      have hc := cell_irow h0 k hlt
      by_cases hf : Fig (S k)
      · have A2 := hid (show ∀ j, j < k + 1 → Fig (S j) from fun j h => by
          by_cases e : j = k
          · subst e; exact hf
          · exact A.out j (by omega))
        generalize S k = f at *
        have HF := hid (rFigure_yes f hf.1 hf.2)
        clear hf
        go_wp2_with (go_at_call 36; refine (HF.out _).mono ?_; rintro e w' ⟨rfl, rfl⟩)
        go_round
        case rel => exact ⟨k + 1, by omega, by go_num, A2.out⟩
        case measure => simp [intOf]; omega
      · generalize S k = f at *
        have HF := hid (rFigure_no f hf)
        clear hf
        go_wp2_with (go_at_call 36; refine (HF.out _).mono ?_; rintro e w' ⟨rfl, rfl⟩)
        go_ret
        exact ⟨rfl, hg ▸ hb⟩
    · exact absurd (fun i hi => A.out i (by omega)) HH.out
theorem rAt (S : Nat → Int) (k : Nat) (hk : k < 12) (n : Int) (hn : n = ((k : Nat) : Int) + 1) (w : World) : Calls Tryd.prog 16 #[.agg (irow 12 S), .int .i64 n] w fun e w' => e = .returned (.int .i64 (S k)) ∧ Below w.heap.size w w' := by
  have h0 := heap_alloc_new w (.cells (irow 12 S) 24)
  have hb : Below w.heap.size w (w.alloc (.cells (irow 12 S) 24)) := (Below.refl _ _).alloc (Nat.le_refl _) _
  have hc := cell_irow h0 k hk
  have e1 : n - 1 = ((k : Nat) : Int) := by omega
  have hw := wrap_nat k (by omega)
  have hlt' : ((k : Nat) : Int) < 12 := by omega
  have hp0 : (0 : Int) ≤ k := by omega
  clear hn h0
  go_enter Tryd.func16, Tryd.ntmps16
  go_wp2_with fail
  go_ret
  exact ⟨rfl, hb⟩
set_option maxHeartbeats 1000000 in
theorem rRuler (f : Nat) (hf : f < 16) (w : World) : Calls Tryd.prog 37 #[.int .i64 ((f : Nat) : Int)] w fun e w' => e = .returned (.int .i64 ((rulN f : Nat) : Int)) ∧ w = w' := by
  have h : f = 0 ∨ f = 1 ∨ f = 2 ∨ f = 3 ∨ f = 4 ∨ f = 5 ∨ f = 6 ∨ f = 7 ∨ f = 8 ∨ f = 9 ∨ f = 10 ∨ f = 11 ∨ f = 12 ∨ f = 13 ∨ f = 14 ∨ f = 15 := by omega
  rcases h with rfl | rfl | rfl | rfl | rfl | rfl | rfl | rfl | rfl | rfl | rfl | rfl | rfl | rfl | rfl | rfl
  all_goals
    go_enter Tryd.func37, Tryd.ntmps37
    go_wp2_with fail
    go_ret
    exact ⟨rfl, rfl⟩
set_option maxHeartbeats 400000 in
theorem rPartner (s : Nat) (hs : s < 12) (n : Int) (hn : n = ((s : Nat) : Int) + 1) (w : World) : Calls Tryd.prog 17 #[.int .i64 n] w fun e w' => e = .returned (.int .i64 ((parN s + 1 : Nat) : Int)) ∧ w = w' := by
  subst hn
  have h : s = 0 ∨ s = 1 ∨ s = 2 ∨ s = 3 ∨ s = 4 ∨ s = 5 ∨ s = 6 ∨ s = 7 ∨ s = 8 ∨ s = 9 ∨ s = 10 ∨ s = 11 := by omega
  rcases h with rfl | rfl | rfl | rfl | rfl | rfl | rfl | rfl | rfl | rfl | rfl | rfl
  all_goals
    go_enter Tryd.func17, Tryd.ntmps17
    go_wp2_with fail
    go_ret
    exact ⟨rfl, rfl⟩
end Go.Proofs.YtcdbkgpgjjeoiaaDoor
/- Walks of the reference of chapter 5: Marks, Apart, Next. -/
namespace Go.Proofs.YtcdbkgpgjjeoiaaDoor
open Go Go.RowKit
set_option maxRecDepth 100000

def lnS (f : Nat) : Nat → Nat
  | 0 => 0
  | k + 1 => lnS f k + ln f k
theorem lnS_four (f : Nat) : lnS f 4 = mk f := by simp [lnS, mk]
theorem lnS_bd (f : Nat) : ∀ k, lnS f k ≤ 2 * k
  | 0 => Nat.le_refl _
  | k + 1 => by have := lnS_bd f k; have := (ln_bd f k).2; unfold lnS; omega
set_option maxHeartbeats 1000000 in
theorem rMarks (h : Nat → Nat) (hh : ∀ i, i < 12 → h i < 16) (w : World) : Calls Tryd.prog 43 #[.agg (irow 12 (cst h))] w fun e w' => e = .returned (.int .i64 ((mks h 12 : Nat) : Int)) ∧ Below w.heap.size w w' := by
  have h0 := heap_alloc_new w (.cells (irow 12 (cst h)) 24)
  have hb : Below w.heap.size w (w.alloc (.cells (irow 12 (cst h)) 24)) := (Below.refl _ _).alloc (Nat.le_refl _) _
  have HH := hid hh
  have HM := hid (mks_bd h hh)
  clear hh
  go_enter Tryd.func43, Tryd.ntmps43
  go_wp2_with fail
  generalize w.alloc (.cells (irow 12 (cst h)) 24) = w1 at *
  generalize hg : w.heap.size = g at *
  go_loop [3, 4] (fun a i => ∃ k : Nat, k ≤ 12 ∧ i = .int .i64 k ∧ a = .int .i64 ((mks h k : Nat) : Int)) (fun _ i => 12 - (intOf i).toNat)
  case atStart => exact ⟨0, by omega, rfl, rfl⟩
  case round =>
    obtain ⟨k, hk, rfl, rfl⟩ := hrel
    by_cases hlt : k < 12
    · have hlt' : ((k : Nat) : Int) < 12 := by omega
      have hp0 : (0 : Int) ≤ k := by omega
      have hc := cell_irow h0 k hlt
      rw [cst_app] at hc
      have hf := HH.out k hlt
      have hm := (HM.out k hk).2
      have HST := hid (show mks h (k + 1) = mks h k + mk (h k) from rfl)
      generalize mks h k = m at *
      generalize h k = f at *
      go_wp2_with fail
      go_loop [3, 5] (fun a i => ∃ j : Nat, j ≤ 4 ∧ i = .int .i64 j ∧ a = .int .i64 ((m + lnS f j : Nat) : Int)) (fun _ i => 4 - (intOf i).toNat)
      case atStart => exact ⟨0, by omega, rfl, rfl⟩
      case round =>
        obtain ⟨j, hj, rfl, rfl⟩ := hrel
        by_cases hjt : j < 4
        · have hjt' : ((j : Nat) : Int) < 4 := by omega
          have hp1 : (0 : Int) ≤ j := by omega
          have HL := hid (rLine f j hf (by omega))
          have h1 := (ln_bd f j).2
          have h2 := lnS_bd f j
          have HS2 := hid (show m + lnS f (j + 1) = m + lnS f j + ln f j from (Nat.add_assoc _ _ _).symm)
          obtain ⟨m3, hm3⟩ : ∃ z, m + lnS f (j + 1) = z := ⟨_, rfl⟩
          rw [hm3] at HS2
          have HM3 := hid hm3
          obtain ⟨m2, hm2⟩ : ∃ z, m + lnS f j = z := ⟨_, rfl⟩
          rw [hm2] at HS2
          have hb2 : m2 ≤ 1000 := by omega
          rw [hm2]
          generalize ln f j = l at *
          have e1 : ((m2 : Nat) : Int) + ((l : Nat) : Int) = ((m3 : Nat) : Int) := by rw [HS2.out]; push_cast; rfl
          have hw := wrap_nat m3 (by rw [HS2.out]; omega)
          clear hm2 h2 hm3
          go_wp2_with (go_at_call 53; refine (HL.out _).mono ?_; rintro e w' ⟨rfl, rfl⟩)
          go_round
          case rel => exact ⟨j + 1, by omega, by go_num, by rw [HM3.out]⟩
          case measure => simp [intOf]; omega
        · have hge : ¬ ((j : Nat) : Int) < 4 := by omega
          obtain rfl : j = 4 := by omega
          have e4 : m + lnS f 4 = m + mk f := by rw [lnS_four]
          have HE := hid e4
          rw [e4]
          clear e4
          generalize m + mk f = m3 at *
          go_wp2_with fail
          go_round
          case rel => exact ⟨k + 1, by omega, by go_num, by rw [HST.out]⟩
          case measure => simp [intOf]; omega
    · have hge : ¬ ((k : Nat) : Int) < 12 := by omega
      obtain rfl : k = 12 := by omega
      obtain ⟨m, hm⟩ : ∃ z, mks h 12 = z := ⟨_, rfl⟩
      rw [hm]
      have HMM := hid hm
      clear hm
      go_wp2_with fail
      go_ret
      exact ⟨by rw [HMM.out]; rfl, hg ▸ hb⟩
set_option maxHeartbeats 1000000 in
theorem rApart (x y : Nat) (hx : x < 12) (hy : y < 12) (a b : Int) (ha : a = ((x : Nat) : Int) + 1) (hb : b = ((y : Nat) : Int) + 1) (w : World) : Calls Tryd.prog 38 #[.int .i64 a, .int .i64 b] w fun e w' => e = .returned (.int .i64 ((apN x y : Nat) : Int)) ∧ w = w' := by
  have hd1 : ∃ d, (y + 12 - x) % 12 = d := ⟨_, rfl⟩
  have hd2 : ∃ d, (x + 12 - y) % 12 = d := ⟨_, rfl⟩
  obtain ⟨d1, h1⟩ := hd1
  obtain ⟨d2, h2⟩ := hd2
  have HA := hid (show apN x y = min d2 d1 by unfold apN; rw [h1, h2])
  have HX := hid ha
  have HY := hid hb
  clear ha hb
  go_enter Tryd.func38, Tryd.ntmps38
  go_wp2_with fail
  go_loop [5, 7] (fun n i => ∃ k : Nat, k ≤ d1 ∧ n = .int .i64 k ∧ i = .int .i64 (((x + k) % 12 + 1 : Nat) : Int)) (fun n _ => d1 - (intOf n).toNat)
  case atStart => exact ⟨0, by omega, rfl, by rw [HX.out, show (x + 0) % 12 + 1 = x + 1 by omega, Int.natCast_add]; rfl⟩
  case round =>
    obtain ⟨k, hk, rfl, rfl⟩ := hrel
    by_cases hlt : k < d1
    · obtain ⟨p, hp⟩ : ∃ p, (x + k) % 12 + 1 = p := ⟨_, rfl⟩
      have HS := hid (show (x + (k + 1)) % 12 + 1 = p % 12 + 1 by omega)
      have hne : (((p : Nat) : Int) != b) = true := by rw [HY.out]; simp; omega
      have hp12 : p ≤ 12 := by omega
      rw [hp]
      clear hp
      go_wp2_with fail
      go_round
      case rel => exact ⟨k + 1, by omega, by go_num, by rw [HS.out]; go_num⟩
      case measure => simp [intOf]; omega
    · obtain rfl : k = d1 := by omega
      have hpb : (((x + k) % 12 + 1 : Nat) : Int) = b := by rw [HY.out]; omega
      have hne : (b != b) = false := by simp
      rw [hpb]
      clear hpb
      go_wp2_with fail
      go_loop [6, 8] (fun n i => ∃ j : Nat, j ≤ d2 ∧ n = .int .i64 j ∧ i = .int .i64 (((y + j) % 12 + 1 : Nat) : Int)) (fun n _ => d2 - (intOf n).toNat)
      case atStart => exact ⟨0, by omega, rfl, by rw [HY.out, show (y + 0) % 12 + 1 = y + 1 by omega, Int.natCast_add]; rfl⟩
      case round =>
        obtain ⟨j, hj, rfl, rfl⟩ := hrel
        by_cases hjt : j < d2
        · obtain ⟨p, hp⟩ : ∃ p, (y + j) % 12 + 1 = p := ⟨_, rfl⟩
          have HS := hid (show (y + (j + 1)) % 12 + 1 = p % 12 + 1 by omega)
          have hne : (((p : Nat) : Int) != a) = true := by rw [HX.out]; simp; omega
          have hp12 : p ≤ 12 := by omega
          rw [hp]
          clear hp
          go_wp2_with fail
          go_round
          case rel => exact ⟨j + 1, by omega, by go_num, by rw [HS.out]; go_num⟩
          case measure => simp [intOf]; omega
        · obtain rfl : j = d2 := by omega
          have hpa : (((y + j) % 12 + 1 : Nat) : Int) = a := by rw [HX.out]; omega
          have hne : (a != a) = false := by simp
          have hk2 : k ≤ 12 := by omega
          have hj2 : j ≤ 12 := by omega
          rw [hpa]
          clear hpa h1 h2
          go_wp2_with fail
          all_goals
            go_ret
            refine ⟨?_, rfl⟩
            rw [HA.out]
            refine congrArg (fun z => Ending.returned (Value.int IntKind.i64 z)) ?_
            omega
theorem rNext (x y : Nat) (hx : x < 12) (hy : y < 12) (a b : Int) (ha : a = ((x : Nat) : Int) + 1) (hb : b = ((y : Nat) : Int) + 1) (w : World) : Calls Tryd.prog 84 #[.int .i64 a, .int .i64 b] w fun e w' => e = .returned (.bool (nxt x y)) ∧ w = w' := by
  have HA := hid (rApart x y hx hy a b ha hb)
  have HN := hid (show nxt x y = (apN x y == 1) from rfl)
  obtain ⟨d, hd⟩ : ∃ d, apN x y = d := ⟨_, rfl⟩
  rw [hd] at HA HN
  have e1 : (((d : Nat) : Int) == 1) = (d == 1) := by
    by_cases h : d = 1
    · subst h; rfl
    · rw [show (d == 1) = false by simpa using h]; simp; omega
  rw [HN.out]
  clear hd ha hb
  go_enter Tryd.func84, Tryd.ntmps84
  go_wp2_with (go_at_call 38; refine (HA.out _).mono ?_; rintro e w' ⟨rfl, rfl⟩)
  go_ret
  exact ⟨rfl, rfl⟩
end Go.Proofs.YtcdbkgpgjjeoiaaDoor
/- Walks of the reference of chapter 5: Company. -/
namespace Go.Proofs.YtcdbkgpgjjeoiaaDoor
open Go Go.RowKit
set_option maxRecDepth 100000

theorem rLine0 (f : Nat) (hf : f < 16) (w : World) : Calls Tryd.prog 53 #[.int .i64 ((f : Nat) : Int), .int .i64 0] w fun e w' => e = .returned (.int .i64 ((ln f 0 : Nat) : Int)) ∧ w = w' := rLine f 0 hf (by omega) w
theorem beqN (a b : Nat) : (((a : Nat) : Int) == ((b : Nat) : Int)) = decide (a = b) := by
  by_cases h : a = b
  · subst h; simp
  · rw [decide_eq_false h]; simp; omega
theorem bneN (a b : Nat) : (((a : Nat) : Int) != ((b : Nat) : Int)) = !decide (a = b) := by
  unfold bne; rw [beqN]
set_option maxHeartbeats 4000000 in
theorem rCompany (f g : Nat) (hf : f < 16) (hg : g < 16) (w : World) : Calls Tryd.prog 19 #[.int .i64 ((f : Nat) : Int), .int .i64 ((g : Nat) : Int)] w fun e w' => e = .returned (.int .i64 ((compN f g : Nat) : Int)) ∧ Below w.heap.size w w' := by
  have HS := hid (rSum f g hf hg)
  by_cases hfg : f = g
  · subst hfg
    have e0 : (((f : Nat) : Int) == ((f : Nat) : Int)) = true := by simp
    have e0' : (((f : Nat) : Int) != ((f : Nat) : Int)) = false := by simp
    have hx : f ^^^ f = 0 := Nat.xor_self f
    have hc : compN f f = 1 := by unfold compN; simp
    rw [hx] at HS
    rw [hc]
    clear hx hc
    go_enter Tryd.func19, Tryd.ntmps19
    go_wp2_with (go_at_call 52; refine (HS.out _).mono ?_; rintro e w' ⟨rfl, hb⟩)
    go_ret
    exact ⟨rfl, hb⟩
  · have e0 : (((f : Nat) : Int) == ((g : Nat) : Int)) = false := by simp; omega
    have e0' : (((f : Nat) : Int) != ((g : Nat) : Int)) = true := by simp; omega
    obtain ⟨c, hc⟩ : ∃ c, compN f g = c := ⟨_, rfl⟩
    have hc' := hc
    unfold compN at hc'
    rw [hc]
    have e1 := beqN (rulN f) (rulN g)
    have e2 : (((f ^^^ g : Nat) : Int) == 15) = decide (f ^^^ g = 15) := beqN (f ^^^ g) 15
    have e3 := beqN (ln f 0) (ln g 0)
    by_cases hr : rulN f = rulN g <;> by_cases hx : f ^^^ g = 15 <;> by_cases hl : ln f 0 = ln g 0
    all_goals
      simp [hfg, hr, hx, hl] at hc'
      subst hc'
      first | rw [decide_eq_true hr] at e1 | rw [decide_eq_false hr] at e1
      first | rw [decide_eq_true hx] at e2 | rw [decide_eq_false hx] at e2
      first | rw [decide_eq_true hl] at e3 | rw [decide_eq_false hl] at e3
      generalize f ^^^ g = x at *
      clear hc hr hx hl
      go_enter Tryd.func19, Tryd.ntmps19
      go_wp2_with (first
        | (go_at_call 37; refine (rRuler _ (by assumption) _).mono ?_; rintro e w' ⟨rfl, rfl⟩)
        | (go_at_call 52; refine (HS.out _).mono ?_; rintro e w' ⟨rfl, hb⟩)
        | (go_at_call 53; refine (rLine0 _ (by assumption) _).mono ?_; rintro e w' ⟨rfl, rfl⟩))
      go_ret
      exact ⟨rfl, hb⟩
end Go.Proofs.YtcdbkgpgjjeoiaaDoor
