/- The law ShieldNames: the walk. -/
import Derived.Test.YtphnibllfpkkkaaDoorV3
import Derived.Test.YtphnibllfpkkkaaDoorW11
import Derived.Test.YtphnibllfpkkkaaDoorR7
import Derived.Deep.DeepMust
namespace Go.Proofs.YtphnibllfpkkkaaDoor
open Go Go.RowKit
set_option maxRecDepth 100000

theorem lawNames_long (s : ByteArray) (hs : 40 < s.size) (_hm : s.size ≤ 9223372036854775807) (m : Nat → Int) (w : World) (L : Base w) :
    Calls Tryd.prog 9 #[.string s, .agg (irow 4 m)] w fun e w' => e = .returned (.bool true) ∧ Below w.heap.size w w' := by
  have hb0 : Below w.heap.size w (w.alloc (.cells (irow 4 m) 54)) := (Below.refl _ _).alloc (Nat.le_refl _) _
  have HL := hid (known_b _ (L.below hb0))
  have hs' : (40 : Int) < s.size := by omega
  clear L
  go_enter Tryd.func9, Tryd.ntmps9
  go_wp2_with (go_at_call 19; refine HL.out.mono ?_; rintro e w6 ⟨rfl, hc6⟩)
  go_ret
  exact ⟨rfl, hb0.trans (hc6.mono hb0.size)⟩

set_option maxHeartbeats 2000000 in
theorem lawNames_main (s : ByteArray) (hs : s.size ≤ 40) (pk : Nat) (hnam : ∀ i, i < 16 → ((nam i).toList == s.toList) = decide (i = pk)) (pf pe : Int) (hp : (pk < 16 ∧ pf = pk ∧ pe = 0) ∨ (16 ≤ pk ∧ pf = 0 ∧ pe = 4))
    (m : Nat → Int) (gf ge : Int) (w : World) (L : Base w)
    (hP : ∀ W, Below w.heap.size w W → Calls Tryd.prog 41 #[.string s] W fun e w' => e = .returned (.tuple #[.int .i64 pf, .int .i64 pe]) ∧ W = w')
    (hO : ∀ W : World, Calls Tryd.prog 42 #[.agg (irow 4 m)] W fun e w' => e = .returned (.tuple #[.int .i64 gf, .int .i64 ge]) ∧ Below W.heap.size W w')
    (hm : ((∃ j, j < 4 ∧ (∀ i, i < j → m i = 1 ∨ m i = 2) ∧ ¬ (m j = 1 ∨ m j = 2)) ∧ gf = 0 ∧ ge = 2) ∨
      ((∀ i, i < 4 → m i = 1 ∨ m i = 2) ∧ ge = 0 ∧ ∀ W : World, Calls Tryd.prog 35 #[.agg (irow 4 m)] W fun e w' => e = .returned (.int .i64 gf) ∧ Below W.heap.size W w')) :
    Calls Tryd.prog 9 #[.string s, .agg (irow 4 m)] w fun e w' => e = .returned (.bool true) ∧ Below w.heap.size w w' := by
  have h0 := heap_alloc_new w (.cells (irow 4 m) 54)
  have hb0 : Below w.heap.size w (w.alloc (.cells (irow 4 m) 54)) := (Below.refl _ _).alloc (Nat.le_refl _) _
  have HP := hid hP
  have HO := hid hO
  have HM := hid hm
  have HN := hid hnam
  have HQ := hid hp
  have HL := hid (fun W (hb : Below w.heap.size w W) => known_b W (L.below hb))
  have hs' : ¬ (40 : Int) < s.size := by omega
  clear hP hO hm hnam hp L
  go_enter Tryd.func9, Tryd.ntmps9
  go_wp2_with (first
    | (go_at_call 41; go_must (refine (HP.out _ hb0).mono ?_); rintro e w' ⟨rfl, rfl⟩)
    | (refine ldrow arrFour _ rfl rfl _ rfl _ _ h0 ?_)
    | (go_at_call 42; go_must (refine (HO.out _).mono ?_); rintro e w1 ⟨rfl, hc⟩; obtain ⟨hb1, h1⟩ := stepO hb0 hb0.size h0 hc))
  clear h0 hb0 hc
  go_loopw [9, 10, 11] (fun wv sv i wr => ∃ k : Nat, k ≤ 16 ∧ i = .int .i64 k ∧ ((k ≤ pk ∧ wv = .int .i64 0 ∧ sv = .bool false) ∨ (pk < k ∧ wv = .int .i64 pk ∧ sv = .bool true)) ∧ wr.heap[w.heap.size]? = some (.cells (irow 4 m) 54 (0, 0)) ∧ Below w.heap.size w wr) (fun _ _ i _ => 16 - (intOf i).toNat)
  case atStart => exact ⟨0, by omega, rfl, .inl ⟨by omega, rfl, rfl⟩, h1, hb1⟩
  case round =>
    clear h1 hb1
    obtain ⟨k, hk, rfl, hv, hg, hb⟩ := hrel
    by_cases hlt : k < 16
    · have hlt' : (k : Int) < 16 := by omega
      have hq := HN.out k hlt
      by_cases e : k = pk
      · subst e
        rcases hv with ⟨_, rfl, rfl⟩ | ⟨h, _, _⟩
        · simp only [decide_true] at hq
          have Hq := hid hq
          clear hq
          go_wp2_with (go_at_call 34; go_must (refine (rNames _).mono ?_); rintro e w2 ⟨rfl, hn, hc⟩; have hcell := hn k hlt; obtain ⟨hb2, h2⟩ := stepO hb hb.size hg hc; have hq := Hq.out; generalize nam k = t at hcell hq; clear hn)
          go_roundw
          case rel => exact ⟨k + 1, by omega, by go_num, .inr ⟨by omega, rfl, rfl⟩, h2, hb2⟩
          case measure => simp [intOf]; omega
        · omega
      · have hq' : ((nam k).toList == s.toList) = false := by rw [hq]; simpa using e
        have Hq := hid hq'
        clear hq hq'
        rcases hv with ⟨h, rfl, rfl⟩ | ⟨h, rfl, rfl⟩
        all_goals
          go_wp2_with (go_at_call 34; go_must (refine (rNames _).mono ?_); rintro e w2 ⟨rfl, hn, hc⟩; have hcell := hn k hlt; obtain ⟨hb2, h2⟩ := stepO hb hb.size hg hc; have hq := Hq.out; generalize nam k = t at hcell hq; clear hn)
          go_roundw
          case rel => first | exact ⟨k + 1, by omega, by go_num, .inl ⟨by omega, rfl, rfl⟩, h2, hb2⟩ | exact ⟨k + 1, by omega, by go_num, .inr ⟨by omega, rfl, rfl⟩, h2, hb2⟩
          case measure => simp [intOf]; omega
    · have hge : ¬ (k : Int) < 16 := by omega
      obtain rfl : k = 16 := by omega
      have hz : (∃ pe' : Int, pe' = pe) := ⟨_, rfl⟩
      rcases hv with ⟨h, rfl, rfl⟩ | ⟨h, rfl, rfl⟩
      · obtain ⟨rfl, rfl⟩ : pf = 0 ∧ pe = 4 := by rcases HQ.out with ⟨a, _⟩ | ⟨_, a⟩; omega; exact a
        rcases HM.out with ⟨⟨j, hj, hv, hbad⟩, rfl, rfl⟩ | ⟨hv, rfl, hr⟩
        · have HV := hid hv
          have HB := hid hbad
          clear hv hbad
          go_wp2_with fail
          go_loop [12] (fun i => ∃ k : Nat, k ≤ j ∧ i = .int .i64 k) (fun i => 4 - (intOf i).toNat)
          case atStart => exact ⟨0, by omega, rfl⟩
          case round =>
            obtain ⟨k, hk, rfl⟩ := hrel
            have hlt' : (k : Int) < 4 := by omega
            have hcm := cell_irow hg k (by omega)
            by_cases hlt : k < j
            · rcases HV.out k hlt with h1 | h1
              all_goals
                rw [h1] at hcm
                clear h1
                go_wp2_with fail
                go_round
                case rel => exact ⟨k + 1, by omega, by go_num⟩
                case measure => simp [intOf]; omega
            · obtain rfl : k = j := by omega
              have b1 : (m k != 1) = true := by have := HB.out; simp; omega
              have b2 : (m k != 2) = true := by have := HB.out; simp; omega
              generalize m k = y at hcm b1 b2
              go_wp2_with (go_at_call 19; go_must (refine (HL.out _ hb).mono ?_); rintro e w6 ⟨rfl, hc6⟩; obtain ⟨hb6, h6⟩ := stepO hb hb.size hg hc6)
              go_ret
              exact ⟨rfl, hb6⟩
        · have HV := hid hv
          have HR := hid hr
          clear hv hr
          go_wp2_with fail
          go_loop [12] (fun i => ∃ k : Nat, k ≤ 4 ∧ i = .int .i64 k) (fun i => 4 - (intOf i).toNat)
          case atStart => exact ⟨0, by omega, rfl⟩
          case round =>
            obtain ⟨k, hk, rfl⟩ := hrel
            by_cases hlt : k < 4
            · have hlt' : (k : Int) < 4 := by omega
              have hcm := cell_irow hg k (by omega)
              rcases HV.out k hlt with h1 | h1
              all_goals
                rw [h1] at hcm
                clear h1
                go_wp2_with fail
                go_round
                case rel => exact ⟨k + 1, by omega, by go_num⟩
                case measure => simp [intOf]; omega
            · have hge : ¬ (k : Int) < 4 := by omega
              obtain rfl : k = 4 := by omega
              go_wp2_with (first
                | (refine ldrow arrFour _ rfl rfl _ rfl _ _ hg ?_)
                | (go_at_call 35; go_must (refine (HR.out _).mono ?_); rintro e w5 ⟨rfl, hc5⟩; obtain ⟨hb5, h5⟩ := stepO hb hb.size hg hc5)
                | (go_at_call 19; go_must (refine (HL.out _ hb5).mono ?_); rintro e w6 ⟨rfl, hc6⟩; obtain ⟨hb6, h6⟩ := stepO hb5 hb5.size h5 hc6))
              go_ret
              exact ⟨rfl, hb6⟩
      · obtain ⟨rfl, rfl⟩ : pf = pk ∧ pe = 0 := by rcases HQ.out with ⟨_, a⟩ | ⟨a, _⟩; exact a; omega
        rcases HM.out with ⟨⟨j, hj, hv, hbad⟩, rfl, rfl⟩ | ⟨hv, rfl, hr⟩
        · have HV := hid hv
          have HB := hid hbad
          clear hv hbad
          go_wp2_with fail
          go_loop [12] (fun i => ∃ k : Nat, k ≤ j ∧ i = .int .i64 k) (fun i => 4 - (intOf i).toNat)
          case atStart => exact ⟨0, by omega, rfl⟩
          case round =>
            obtain ⟨k, hk, rfl⟩ := hrel
            have hlt' : (k : Int) < 4 := by omega
            have hcm := cell_irow hg k (by omega)
            by_cases hlt : k < j
            · rcases HV.out k hlt with h1 | h1
              all_goals
                rw [h1] at hcm
                clear h1
                go_wp2_with fail
                go_round
                case rel => exact ⟨k + 1, by omega, by go_num⟩
                case measure => simp [intOf]; omega
            · obtain rfl : k = j := by omega
              have b1 : (m k != 1) = true := by have := HB.out; simp; omega
              have b2 : (m k != 2) = true := by have := HB.out; simp; omega
              generalize m k = y at hcm b1 b2
              go_wp2_with (go_at_call 19; go_must (refine (HL.out _ hb).mono ?_); rintro e w6 ⟨rfl, hc6⟩; obtain ⟨hb6, h6⟩ := stepO hb hb.size hg hc6)
              go_ret
              exact ⟨rfl, hb6⟩
        · have HV := hid hv
          have HR := hid hr
          clear hv hr
          go_wp2_with fail
          go_loop [12] (fun i => ∃ k : Nat, k ≤ 4 ∧ i = .int .i64 k) (fun i => 4 - (intOf i).toNat)
          case atStart => exact ⟨0, by omega, rfl⟩
          case round =>
            obtain ⟨k, hk, rfl⟩ := hrel
            by_cases hlt : k < 4
            · have hlt' : (k : Int) < 4 := by omega
              have hcm := cell_irow hg k (by omega)
              rcases HV.out k hlt with h1 | h1
              all_goals
                rw [h1] at hcm
                clear h1
                go_wp2_with fail
                go_round
                case rel => exact ⟨k + 1, by omega, by go_num⟩
                case measure => simp [intOf]; omega
            · have hge : ¬ (k : Int) < 4 := by omega
              obtain rfl : k = 4 := by omega
              go_wp2_with (first
                | (refine ldrow arrFour _ rfl rfl _ rfl _ _ hg ?_)
                | (go_at_call 35; go_must (refine (HR.out _).mono ?_); rintro e w5 ⟨rfl, hc5⟩; obtain ⟨hb5, h5⟩ := stepO hb hb.size hg hc5)
                | (go_at_call 19; go_must (refine (HL.out _ hb5).mono ?_); rintro e w6 ⟨rfl, hc6⟩; obtain ⟨hb6, h6⟩ := stepO hb5 hb5.size h5 hc6))
              go_ret
              exact ⟨rfl, hb6⟩

theorem nam_ne (i j : Nat) (hi : i < 16) (hj : j < 16) (h : nam i = nam j) : i = j := by
  have : ∀ i j : Fin 16, namT.getD i.1 [] = namT.getD j.1 [] → i = j := by decide
  have e : namT.getD i [] = namT.getD j [] := by
    have := congrArg (fun b : ByteArray => b.data.toList) h
    simpa [nam] using this
  exact congrArg Fin.val (this ⟨i, hi⟩ ⟨j, hj⟩ e)
theorem toList_beq (s t : ByteArray) : (s.toList == t.toList) = decide (s = t) := by
  rw [Bool.eq_iff_iff, beq_iff_eq, decide_eq_true_iff]
  constructor
  · intro h
    rw [ByteArray.ext_iff]; rw [ByteArray.toList_eq, ByteArray.toList_eq] at h; exact Array.toList_inj.1 h
  · rintro rfl; rfl

theorem lawNames (s : ByteArray) (m : Nat → Int) (hs : s.size ≤ maxLen) (w : World) (L : Base w) :
    Calls Tryd.prog 9 #[.string s, .agg (irow 4 m)] w fun e w' => e = .returned (.bool true) ∧ Below w.heap.size w w' := by
  by_cases hl : 40 < s.size
  · exact lawNames_long s hl (by unfold maxLen at hs; omega) m w L
  obtain ⟨pk, pf, pe, hn, hp, hP⟩ : ∃ pk : Nat, ∃ pf pe : Int, (∀ i, i < 16 → ((nam i).toList == s.toList) = decide (i = pk)) ∧ ((pk < 16 ∧ pf = pk ∧ pe = 0) ∨ (16 ≤ pk ∧ pf = 0 ∧ pe = 4)) ∧
      ∀ W, Below w.heap.size w W → Calls Tryd.prog 41 #[.string s] W fun e w' => e = .returned (.tuple #[.int .i64 pf, .int .i64 pe]) ∧ W = w' := by
    by_cases hex : ∃ k, k < 16 ∧ nam k = s
    · obtain ⟨k, hk, rfl⟩ := hex
      refine ⟨k, k, 0, fun i hi => ?_, .inl ⟨hk, rfl, rfl⟩, fun W hb => parse_yes (nam k) k hk rfl (fun i hi e => by have := nam_ne i k (by omega) hk e; omega) W (L.below hb)⟩
      rw [toList_beq]
      by_cases e : i = k
      · subst e; simp
      · rw [decide_eq_false e, decide_eq_false fun h => e (nam_ne i k hi hk h)]
    · refine ⟨16, 0, 4, fun i hi => ?_, .inr ⟨by omega, rfl, rfl⟩, fun W hb => parse_no s (fun i hi e => hex ⟨i, hi, e⟩) W (L.below hb)⟩
      rw [toList_beq, decide_eq_false fun h => hex ⟨i, hi, h⟩, decide_eq_false (by omega)]
  by_cases hm : ∀ i, i < 4 → m i = 1 ∨ m i = 2
  · have e : irow 4 m = irow 4 (cst (fun i => (m i).toNat)) := irow_congr fun i hi => by have := hm i hi; simp only [cst]; omega
    have hm' : ∀ i, i < 4 → (m i).toNat = 1 ∨ (m i).toNat = 2 := fun i hi => by have := hm i hi; omega
    have hv : ∀ i, i < 4 → cst (fun i => (m i).toNat) i = 1 ∨ cst (fun i => (m i).toNat) i = 2 := fun i hi => by have := hm' i hi; simp only [cst]; omega
    rw [e]
    refine lawNames_main s (by omega) pk hn pf pe hp _ _ 0 w L hP (fun W => of_yes _ hv W) (.inr ⟨hv, rfl, fun W => ?_⟩)
    rw [ofS_T _ hm']
    have hb : ∀ i, 1 ≤ (if i < 4 then (m i).toNat else 1) ∧ (if i < 4 then (m i).toNat else 1) ≤ 2 := fun i => by
      split
      · have := hm' i ‹_›; omega
      · omega
    have e2 : irow 4 (cst (fun i => (m i).toNat)) = irow 4 (cst (fun i => if i < 4 then (m i).toNat else 1)) := irow_congr fun i hi => by simp only [cst]; rw [if_pos hi]
    rw [e2, ofT_congr (m' := fun i => if i < 4 then (m i).toNat else 1) (fun i hi => by rw [if_pos hi]) 4 (by omega)]
    exact rOf _ (fun i _ => hb i) W
  · have hex : ∃ j, j < 4 ∧ ¬ (m j = 1 ∨ m j = 2) := by
      apply Classical.byContradiction
      intro h
      exact hm fun i hi => Classical.byContradiction fun hb => h ⟨i, hi, hb⟩
    obtain ⟨j, ⟨hj, hb⟩, hl⟩ := exists_least hex
    exact lawNames_main s (by omega) pk hn pf pe hp m 0 2 w L hP (fun W => of_no m hm W) (.inl ⟨⟨j, hj, fun i hi => Classical.byContradiction fun hb => absurd (hl i ⟨by omega, hb⟩) (by omega), hb⟩, rfl, rfl⟩)
end Go.Proofs.YtphnibllfpkkkaaDoor
