/- Walks: Parse, Marks, Of. -/
import Derived.Test.YtphnibllfpkkkaaDoorW4
import Derived.Test.YtphnibllfpkkkaaDoorR1
import Derived.Test.YtphnibllfpkkkaaDoorPlain
import Derived.Deep.DeepMust
namespace Go.Proofs.YtphnibllfpkkkaaDoor
open Go Go.RowKit
set_option maxRecDepth 100000

theorem index_yes (s : ByteArray) (k : Nat) (hk : k < 16) (he : nam k = s) (hl : ∀ i, i < k → nam i ≠ s) (w : World) (L : Laid w) :
    Calls Tryd.prog 66 #[.slice (some ⟨1, 0, none⟩) 16 16, .string s] w fun e w' => e = .returned (.int .i64 k) ∧ w = w' := by
  have HC := hid L.nam
  have HE := hid he
  have HV := hid (show ∀ i, i < k → (s.toList == (nam i).toList) = false from fun i hi => by
    rw [beq_eq_false_iff_ne]
    intro h
    exact hl i hi (by rw [ByteArray.ext_iff]; rw [ByteArray.toList_eq, ByteArray.toList_eq] at h; exact (Array.toList_inj.1 h).symm))
  clear he hl L
  go_enter Tryd.func66, Tryd.ntmps66
  go_wp2
  go_loop [8] (fun i => ∃ j : Nat, j ≤ k ∧ i = .int .i64 j) (fun i => 16 - (intOf i).toNat)
  case atStart => exact ⟨0, Nat.zero_le _, rfl⟩
  case round =>
    obtain ⟨j, hj, rfl⟩ := hrel
    have hcell := HC.out j (by omega)
    have hlt' : (j : Int) < 16 := by omega
    by_cases hlt : j < k
    · have hq := HV.out j hlt
      generalize nam j = t at hcell hq
      go_wp2
      go_round
      case rel => exact ⟨j + 1, by omega, by go_num⟩
      case measure => simp [intOf]; omega
    · obtain rfl : j = k := by omega
      rw [HE.out] at hcell
      have hq : (s.toList == s.toList) = true := by simp
      go_wp2
      go_ret
      exact ⟨rfl, rfl⟩

theorem index_no (s : ByteArray) (hl : ∀ i, i < 16 → nam i ≠ s) (w : World) (L : Laid w) :
    Calls Tryd.prog 66 #[.slice (some ⟨1, 0, none⟩) 16 16, .string s] w fun e w' => e = .returned (.int .i64 (-1)) ∧ w = w' := by
  have HC := hid L.nam
  have HV := hid (show ∀ i, i < 16 → (s.toList == (nam i).toList) = false from fun i hi => by
    rw [beq_eq_false_iff_ne]
    intro h
    exact hl i hi (by rw [ByteArray.ext_iff]; rw [ByteArray.toList_eq, ByteArray.toList_eq] at h; exact (Array.toList_inj.1 h).symm))
  clear hl L
  go_enter Tryd.func66, Tryd.ntmps66
  go_wp2
  go_loop [8] (fun i => ∃ j : Nat, j ≤ 16 ∧ i = .int .i64 j) (fun i => 16 - (intOf i).toNat)
  case atStart => exact ⟨0, Nat.zero_le _, rfl⟩
  case round =>
    obtain ⟨j, hj, rfl⟩ := hrel
    by_cases hlt : j < 16
    · have hcell := HC.out j hlt
      have hlt' : (j : Int) < 16 := by omega
      have hq := HV.out j hlt
      generalize nam j = t at hcell hq
      go_wp2
      go_round
      case rel => exact ⟨j + 1, by omega, by go_num⟩
      case measure => simp [intOf]; omega
    · have hge : ¬ (j : Int) < 16 := by omega
      go_wp2
      go_ret
      exact ⟨rfl, rfl⟩

theorem parse_yes (s : ByteArray) (k : Nat) (hk : k < 16) (he : nam k = s) (hl : ∀ i, i < k → nam i ≠ s) (w : World) (L : Laid w) :
    Calls Tryd.prog 41 #[.string s] w fun e w' => e = .returned (.tuple #[.int .i64 k, .int .i64 0]) ∧ w = w' := by
  have H := hid (index_yes s k hk he hl w L)
  have hs := L.size.2
  clear he hl L
  go_enter Tryd.func41, Tryd.ntmps41
  go_wp2_with (go_at_call 66; refine H.out.mono ?_; rintro e w' ⟨rfl, rfl⟩)
  go_ret2
  exact ⟨rfl, rfl⟩
theorem parse_no (s : ByteArray) (hl : ∀ i, i < 16 → nam i ≠ s) (w : World) (L : Laid w) :
    Calls Tryd.prog 41 #[.string s] w fun e w' => e = .returned (.tuple #[.int .i64 0, .int .i64 4]) ∧ w = w' := by
  have H := hid (index_no s hl w L)
  have hs := L.size.2
  clear hl L
  go_enter Tryd.func41, Tryd.ntmps41
  go_wp2_with (go_at_call 66; refine H.out.mono ?_; rintro e w' ⟨rfl, rfl⟩)
  go_ret2
  exact ⟨rfl, rfl⟩

/-- The marks, the first k of them laid. -/
def lnTo (a k : Nat) : Nat → Nat := fun j => if j < k then ln a j else 0
theorem lnTo_step (a k : Nat) : irow 4 (upd (cst (lnTo a k)) k ((ln a k : Nat) : Int)) = irow 4 (cst (lnTo a (k + 1))) := by
  rw [upd_cst]
  apply irow_congr
  intro j hj
  simp only [cst, upN, lnTo]
  congr 1
  by_cases e : j = k
  · subst e; rw [if_pos rfl, if_pos (by omega)]
  · rw [if_neg e]
    by_cases h : j < k
    · rw [if_pos h, if_pos (by omega)]
    · rw [if_neg h, if_neg (by omega)]
theorem ln_and (a k : Nat) (ha : a < 16) : (2 : Int) - bits .and .i64 (((a : Nat) : Int) / 2 ^ k) 1 = ((ln a k : Nat) : Int) := by
  have e1 : ((a : Nat) : Int) / 2 ^ k = ((a / 2 ^ k : Nat) : Int) := by push_cast; rfl
  have hlt : a / 2 ^ k < 16 := Nat.lt_of_le_of_lt (Nat.div_le_self _ _) ha
  rw [e1, i64_and1 _ (by omega)]
  unfold ln
  omega

set_option maxHeartbeats 800000 in
theorem marks_yes (a : Nat) (ha : a < 16) (w : World) :
    Calls Tryd.prog 30 #[.int .i64 a] w fun e w' => e = .returned (.tuple #[.agg (irow 4 (cst (ln a))), .int .i64 0]) ∧ Below w.heap.size w w' := by
  have hf : Fig a := ⟨by omega, by omega⟩
  have h0 := heap_alloc2_old w (.cells (irow 4 (fun _ => 0)) 54) (.cells #[.int .i64 (a : Nat)] 22)
  have hb0 : Below w.heap.size w ((w.alloc (.cells (irow 4 (fun _ => 0)) 54)).alloc (.cells #[.int .i64 (a : Nat)] 22)) := ((Below.refl _ _).alloc (Nat.le_refl _) _).alloc (by simp) _
  go_enter Tryd.func30, Tryd.ntmps30
  go_wp2_with (go_at_call 50; refine (vOne_yes a hf _ _ _ ?_).mono ?_; (simp); rintro e w' ⟨rfl, rfl⟩)
  rw [zeros4]
  generalize hW : (w.alloc (.cells (irow 4 (fun _ => 0)) 54)).alloc (.cells #[.int .i64 (a : Nat)] 22) = w1 at *
  clear hW
  go_loopw [10] (fun i wr => ∃ k : Nat, k ≤ 4 ∧ i = .int .i64 k ∧ wr.heap[w.heap.size]? = some (.cells (irow 4 (cst (lnTo a k))) 54 (0, 0)) ∧ Below w.heap.size w wr) (fun i _ => 4 - (intOf i).toNat)
  case atStart =>
    refine ⟨0, by omega, rfl, ?_, hb0⟩
    rw [h0, show irow 4 (fun _ => 0) = irow 4 (cst (lnTo a 0)) from irow_congr fun i hi => by simp only [cst, lnTo]; rw [if_neg (by omega)]; rfl]
  case round =>
    clear h0 hb0
    obtain ⟨k, hk, rfl, hg, hb⟩ := hrel
    by_cases hlt : k < 4
    · have hlt' : (k : Int) < 4 := by omega
      have hc := cell_irow hg k hlt
      have hfz := frozen_of_row _ _ k _ _ hg
      have hln := ln_and a k ha
      have hbd := ln_bd a k
      have hw64 := IntWalk.wrap64_in ((ln a k : Nat) : Int) (by omega)
      have hst := hid (lnTo_step a k)
      go_wp2_with fail
      go_roundw
      case rel => exact ⟨k + 1, by omega, by go_num, by first | rw [set_irow hg, hst.out] | rw [set_irow hg, hln, hw64, hst.out] | rw [set_irow hg, hln, hst.out], hb.setCell (by simp) _⟩
      case measure => simp [intOf]; omega
    · have hge : ¬ (k : Int) < 4 := by omega
      obtain rfl : k = 4 := by omega
      have hg4 : wr.heap[w.heap.size]? = some (.cells (irow 4 (cst (ln a))) 54 (0, 0)) := by
        rw [hg, show irow 4 (cst (lnTo a 4)) = irow 4 (cst (ln a)) from irow_congr fun i hi => by simp only [cst, lnTo]; rw [if_pos hi]]
      clear hg
      go_wp2_with (first | (refine ldrow arrFour _ rfl rfl _ rfl _ _ hg4 ?_) | (refine strow arrFour _ _ rfl rfl _ _ rfl rfl _ _ hg4 ?_))
      exact retrow2 arrFour Tryd.results30 w.heap.size _ _ _ rfl rfl (setRow_heap _ _ _ _ _ _ hg4) rfl ⟨rfl, below_setRow hb (Nat.le_refl _) _⟩

set_option maxHeartbeats 400000 in
theorem marks_no (f : Int) (hf : ¬ Fig f) (w : World) :
    Calls Tryd.prog 30 #[.int .i64 f] w fun e w' => e = .returned (.tuple #[.agg (irow 4 (fun _ => 0)), .int .i64 2]) ∧ Below w.heap.size w w' := by
  have H := hid hf
  clear hf
  have h0 := heap_alloc2_old w (.cells (irow 4 (fun _ => 0)) 54) (.cells #[.int .i64 f] 22)
  have hb0 : Below w.heap.size w ((w.alloc (.cells (irow 4 (fun _ => 0)) 54)).alloc (.cells #[.int .i64 f] 22)) := ((Below.refl _ _).alloc (Nat.le_refl _) _).alloc (by simp) _
  go_enter Tryd.func30, Tryd.ntmps30
  go_wp2_with (first | (go_at_call 50; refine (vOne_no f H.out _ _ _ ?_).mono ?_; (simp); rintro e w' ⟨rfl, rfl⟩; rw [zeros4]; generalize (w.alloc (.cells (irow 4 (fun _ => 0)) 54)).alloc (.cells #[.int .i64 f] 22) = w1 at h0 hb0 ⊢) | (refine ldrow arrFour _ rfl rfl _ rfl _ _ h0 ?_) | (refine strow arrFour _ _ rfl rfl _ _ rfl rfl _ _ h0 ?_))
  exact retrow2 arrFour Tryd.results30 w.heap.size _ _ _ rfl rfl (setRow_heap _ _ _ _ _ _ h0) rfl ⟨rfl, below_setRow hb0 (Nat.le_refl _) _⟩

/-- The bits of the marks, the first k of them laid. -/
def ofS (m : Nat → Int) : Nat → Nat
  | 0 => 0
  | k + 1 => if m k = 1 then ofS m k ||| 2 ^ k else ofS m k
theorem ofS_lt (m : Nat → Int) : ∀ k, ofS m k < 2 ^ k
  | 0 => by simp [ofS]
  | k + 1 => by
    have h := ofS_lt m k
    have h2 : 2 ^ k < 2 ^ (k + 1) := by rw [Nat.pow_succ]; have := Nat.two_pow_pos k; omega
    rw [ofS]; split
    · exact Nat.or_lt_two_pow (by omega) h2
    · omega
theorem ofS_T (m : Nat → Nat) (hm : ∀ i, i < 4 → m i = 1 ∨ m i = 2) : ofS (cst m) 4 = ofT m 4 := by
  simp only [ofS, ofT, cst, Nat.reduceSub]
  rcases hm 0 (by omega) with h0 | h0 <;> rcases hm 1 (by omega) with h1 | h1 <;> rcases hm 2 (by omega) with h2 | h2 <;> rcases hm 3 (by omega) with h3 | h3 <;> simp only [h0, h1, h2, h3] <;> decide
theorem ofS_step (m : Nat → Int) (k : Nat) (hk : k < 4) (h : m k = 1) : bits .or .i64 ((ofS m k : Nat) : Int) (2 ^ k) = ((ofS m (k + 1) : Nat) : Int) := by
  have hp : 2 ^ k ≤ 8 := by
    have : k = 0 ∨ k = 1 ∨ k = 2 ∨ k = 3 := by omega
    rcases this with rfl | rfl | rfl | rfl <;> decide
  have hd := ofS_lt m k
  have e : (2 : Int) ^ k = ((2 ^ k : Nat) : Int) := by push_cast; rfl
  rw [e, i64_or _ _ (by omega) (by omega), ofS, if_pos h]
theorem ofS_keep (m : Nat → Int) (k : Nat) (h : m k = 2) : ofS m (k + 1) = ofS m k := by rw [ofS, if_neg (by omega)]

set_option maxHeartbeats 800000 in
theorem of_yes (m : Nat → Int) (hm : ∀ i, i < 4 → m i = 1 ∨ m i = 2) (w : World) :
    Calls Tryd.prog 42 #[.agg (irow 4 m)] w fun e w' => e = .returned (.tuple #[.int .i64 (ofS m 4 : Nat), .int .i64 0]) ∧ Below w.heap.size w w' := by
  have h0 := heap_alloc_new w (.cells (irow 4 m) 54)
  have hb0 : Below w.heap.size w (w.alloc (.cells (irow 4 m) 54)) := (Below.refl _ _).alloc (Nat.le_refl _) _
  have HM := hid hm
  clear hm
  go_enter Tryd.func42, Tryd.ntmps42
  go_wp2_with (refine ldrow arrFour _ rfl rfl _ rfl _ _ h0 ?_)
  generalize hW : w.alloc (.cells (irow 4 m) 54) = w1 at *
  clear hW h0
  go_loop [2, 7] (fun f i => ∃ k : Nat, k ≤ 4 ∧ i = .int .i64 k ∧ f = .int .i64 (ofS m k : Nat)) (fun _ i => 4 - (intOf i).toNat)
  case atStart => exact ⟨0, by omega, rfl, rfl⟩
  case round =>
    obtain ⟨k, hk, rfl, rfl⟩ := hrel
    by_cases hlt : k < 4
    · have hlt' : (k : Int) < 4 := by omega
      have hix := idxFour m k hlt
      rcases HM.out k hlt with h1 | h1
      · have hst := hid (ofS_step m k hlt h1)
        rw [h1] at hix
        have hp := IntWalk.wrap64_in ((2 : Int) ^ k) (by
          have : k = 0 ∨ k = 1 ∨ k = 2 ∨ k = 3 := by omega
          rcases this with rfl | rfl | rfl | rfl <;> decide)
        clear h1
        generalize hd : ofS m k = d at hst
        have Hd := hid hd
        clear hd
        go_wp2_with fail
        go_round
        case rel => exact ⟨k + 1, by omega, by go_num, by first | rw [hst.out] | rw [hp, hst.out]⟩
        case measure => simp [intOf]; omega
      · have hst := hid (ofS_keep m k h1)
        rw [h1] at hix
        clear h1
        go_wp2_with fail
        go_round
        case rel => exact ⟨k + 1, by omega, by go_num, by rw [hst.out]⟩
        case measure => simp [intOf]; omega
    · have hge : ¬ (k : Int) < 4 := by omega
      obtain rfl : k = 4 := by omega
      go_wp2_with fail
      go_ret2
      exact ⟨rfl, hb0⟩

set_option maxHeartbeats 800000 in
theorem of_no (m : Nat → Int) (hm : ¬ ∀ i, i < 4 → m i = 1 ∨ m i = 2) (w : World) :
    Calls Tryd.prog 42 #[.agg (irow 4 m)] w fun e w' => e = .returned (.tuple #[.int .i64 0, .int .i64 2]) ∧ Below w.heap.size w w' := by
  have hex : ∃ j, j < 4 ∧ ¬ (m j = 1 ∨ m j = 2) := by
    apply Classical.byContradiction
    intro h
    exact hm fun i hi => Classical.byContradiction fun hb => h ⟨i, hi, hb⟩
  obtain ⟨j, ⟨hj, hb⟩, hl⟩ := exists_least hex
  have HM := hid (show ∀ i, i < j → (m i = 1 ∨ m i = 2) from fun i hi => Classical.byContradiction fun hb => absurd (hl i ⟨by omega, hb⟩) (by omega))
  have HB := hid hb
  clear hm hex hl hb
  have h0 := heap_alloc_new w (.cells (irow 4 m) 54)
  have hb0 : Below w.heap.size w (w.alloc (.cells (irow 4 m) 54)) := (Below.refl _ _).alloc (Nat.le_refl _) _
  go_enter Tryd.func42, Tryd.ntmps42
  go_wp2_with (refine ldrow arrFour _ rfl rfl _ rfl _ _ h0 ?_)
  generalize hW : w.alloc (.cells (irow 4 m) 54) = w1 at *
  clear hW h0
  go_loop [2, 7] (fun f i => ∃ k : Nat, k ≤ j ∧ i = .int .i64 k ∧ ∃ x : Int, f = .int .i64 x) (fun _ i => 4 - (intOf i).toNat)
  case atStart => exact ⟨0, by omega, rfl, _, rfl⟩
  case round =>
    obtain ⟨k, hk, rfl, x, rfl⟩ := hrel
    have hlt' : (k : Int) < 4 := by omega
    have hix := idxFour m k (by omega)
    by_cases hlt : k < j
    · rcases HM.out k hlt with h1 | h1
      · rw [h1] at hix
        clear h1
        go_wp2_with fail
        go_round
        case rel => exact ⟨k + 1, by omega, by go_num, _, rfl⟩
        case measure => simp [intOf]; omega
      · rw [h1] at hix
        clear h1
        go_wp2_with fail
        go_round
        case rel => exact ⟨k + 1, by omega, by go_num, _, rfl⟩
        case measure => simp [intOf]; omega
    · obtain rfl : k = j := by omega
      have b1 : (m k == 1) = false := by have := HB.out; simp; omega
      have b2 : (m k == 2) = false := by have := HB.out; simp; omega
      generalize m k = y at hix b1 b2
      go_wp2_with fail
      go_ret2
      exact ⟨rfl, hb0⟩
end Go.Proofs.YtphnibllfpkkkaaDoor
