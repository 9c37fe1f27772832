/- Walks: Check, valid, one, Sum, Turned, Opposite, Name, lines. -/
import Derived.Test.YtcdbkgpgjjeoiaaDoorPlain
namespace Go.Proofs.YtcdbkgpgjjeoiaaDoor
open Go Go.RowKit
set_option maxRecDepth 100000

theorem check_yes (f : Int) (h0 : 0 ≤ f) (h1 : f ≤ 15) (w : World) : Calls Tryd.prog 62 #[.int .i64 f] w fun e w' => e = .returned (.int .i64 0) ∧ w = w' := by
  have a1 : decide (f < 0) = false := by simp; omega
  have a2 : decide (15 < f) = false := by simp; omega
  go_enter Tryd.func62, Tryd.ntmps62
  go_wp2
  go_ret
  exact ⟨rfl, rfl⟩

theorem check_no (f : Int) (h : ¬ Fig f) (w : World) : Calls Tryd.prog 62 #[.int .i64 f] w fun e w' => e = .returned (.int .i64 2) ∧ w = w' := by
  unfold Fig at h
  by_cases h0 : f < 0
  · have a1 : decide (f < 0) = true := by simp; omega
    go_enter Tryd.func62, Tryd.ntmps62
    go_wp2
    go_ret
    exact ⟨rfl, rfl⟩
  · have a1 : decide (f < 0) = false := by simp; omega
    have a2 : decide (15 < f) = true := by simp; omega
    go_enter Tryd.func62, Tryd.ntmps62
    go_wp2
    go_ret
    exact ⟨rfl, rfl⟩

theorem valid1_yes (f : Int) (h0 : 0 ≤ f) (h1 : f ≤ 15) (w : World) : Calls Tryd.prog 89 #[.int .i64 f] w fun e w' => e = .returned (.bool false) ∧ w = w' := by
  go_enter Tryd.func89, Tryd.ntmps89
  go_wp2_with (go_at_call 62; refine (check_yes f h0 h1 _).mono ?_; rintro e w' ⟨rfl, rfl⟩)
  go_ret
  exact ⟨rfl, rfl⟩

theorem valid1_no (f : Int) (h : ¬ Fig f) (w : World) : Calls Tryd.prog 89 #[.int .i64 f] w fun e w' => e = .returned (.bool true) ∧ w = w' := by
  go_enter Tryd.func89, Tryd.ntmps89
  go_wp2_with (go_at_call 62; refine (check_no f h _).mono ?_; rintro e w' ⟨rfl, rfl⟩)
  go_ret
  exact ⟨rfl, rfl⟩

theorem indexFig_yes (S : Nat → Int) (b off n c : Nat) (w : World) (hn : n ≤ 9223372036854775807) (hc : ∀ i, i < n → w.cell? ⟨b, off + i, none⟩ = some (.int .i64 (S i))) (hv : ∀ i, i < n → Fig (S i)) :
    Calls Tryd.prog 87 #[.slice (some ⟨b, off, none⟩) n c, .func (.func 89) #[] #[]] w fun e w' => e = .returned (.int .i64 (-1)) ∧ w = w' := by
  have HC := hid hc
  have HV := hid hv
  clear hc hv
  go_enter Tryd.func87, Tryd.ntmps87
  go_wp2
  go_loop [8] (fun i => ∃ k : Nat, k ≤ n ∧ i = .int .i64 k) (fun i => n - (intOf i).toNat)
  case atStart => exact ⟨0, Nat.zero_le _, rfl⟩
  case round =>
    obtain ⟨k, hk, rfl⟩ := hrel
    by_cases hlt : k < n
    · have hcell := HC.out k hlt
      have hf := HV.out k hlt
      unfold Fig at hf
      obtain ⟨hf0, hf1⟩ := hf
      go_wp2_with (go_at_call 89; refine (valid1_yes (S k) hf0 hf1 _).mono ?_; rintro e w' ⟨rfl, rfl⟩)
      go_round
      case rel => exact ⟨k + 1, by omega, by go_num⟩
      case measure => simp [intOf]; omega
    · go_wp2
      go_ret
      exact ⟨rfl, rfl⟩

theorem indexFig_no (S : Nat → Int) (j : Nat) (b off n c : Nat) (w : World) (hn : n ≤ 9223372036854775807) (hc : ∀ i, i < n → w.cell? ⟨b, off + i, none⟩ = some (.int .i64 (S i))) (hj : j < n) (hv : ∀ i, i < j → Fig (S i)) (hb : ¬ Fig (S j)) :
    Calls Tryd.prog 87 #[.slice (some ⟨b, off, none⟩) n c, .func (.func 89) #[] #[]] w fun e w' => e = .returned (.int .i64 j) ∧ w = w' := by
  have HC := hid hc
  have HV := hid hv
  have HB := hid hb
  clear hc hv hb
  go_enter Tryd.func87, Tryd.ntmps87
  go_wp2
  go_loop [8] (fun i => ∃ k : Nat, k ≤ j ∧ i = .int .i64 k) (fun i => n - (intOf i).toNat)
  case atStart => exact ⟨0, Nat.zero_le _, rfl⟩
  case round =>
    obtain ⟨k, hk, rfl⟩ := hrel
    have hcell := HC.out k (by omega)
    have hlt' : (k : Int) < n := by omega
    by_cases hlt : k < j
    · have hf := HV.out k hlt
      unfold Fig at hf
      obtain ⟨hf0, hf1⟩ := hf
      go_wp2_with (go_at_call 89; refine (valid1_yes (S k) hf0 hf1 _).mono ?_; rintro e w' ⟨rfl, rfl⟩)
      go_round
      case rel => exact ⟨k + 1, by omega, by go_num⟩
      case measure => simp [intOf]; omega
    · obtain rfl : k = j := by omega
      go_wp2_with (go_at_call 89; refine (valid1_no (S k) HB.out _).mono ?_; rintro e w' ⟨rfl, rfl⟩)
      go_ret
      exact ⟨rfl, rfl⟩

theorem containsFig_yes (S : Nat → Int) (b off n c : Nat) (w : World) (hn : n ≤ 9223372036854775807) (hc : ∀ i, i < n → w.cell? ⟨b, off + i, none⟩ = some (.int .i64 (S i))) (hv : ∀ i, i < n → Fig (S i)) :
    Calls Tryd.prog 64 #[.slice (some ⟨b, off, none⟩) n c, .func (.func 89) #[] #[]] w fun e w' => e = .returned (.bool false) ∧ w = w' := by
  have H := hid (indexFig_yes S b off n c w hn hc hv)
  clear hc hv
  go_enter Tryd.func64, Tryd.ntmps64
  go_wp2_with (go_at_call 87; refine H.out.mono ?_; rintro e w' ⟨rfl, rfl⟩)
  go_ret
  exact ⟨rfl, rfl⟩

theorem containsFig_no (S : Nat → Int) (b off n c : Nat) (w : World) (hn : n ≤ 9223372036854775807) (hc : ∀ i, i < n → w.cell? ⟨b, off + i, none⟩ = some (.int .i64 (S i))) (hv : ¬ ∀ i, i < n → Fig (S i)) :
    Calls Tryd.prog 64 #[.slice (some ⟨b, off, none⟩) n c, .func (.func 89) #[] #[]] w fun e w' => e = .returned (.bool true) ∧ w = w' := by
  have hex : ∃ j, j < n ∧ ¬ Fig (S j) := by
    apply Classical.byContradiction
    intro h
    exact hv fun i hi => Classical.byContradiction fun hb => h ⟨i, hi, hb⟩
  obtain ⟨j, ⟨hj, hb⟩, hl⟩ := exists_least hex
  have H := hid (indexFig_no S j b off n c w hn hc hj (fun i hi => Classical.byContradiction fun hb => absurd (hl i ⟨by omega, hb⟩) (by omega)) hb)
  clear hc hv hex hl hb
  have hj0 : (0 : Int) ≤ j := by omega
  go_enter Tryd.func64, Tryd.ntmps64
  go_wp2_with (go_at_call 87; refine H.out.mono ?_; rintro e w' ⟨rfl, rfl⟩)
  go_ret
  exact ⟨by simp, rfl⟩

theorem valid_yes (S : Nat → Int) (b off n c : Nat) (w : World) (hn : n ≤ 9223372036854775807) (hc : ∀ i, i < n → w.cell? ⟨b, off + i, none⟩ = some (.int .i64 (S i))) (hv : ∀ i, i < n → Fig (S i)) :
    Calls Tryd.prog 68 #[.slice (some ⟨b, off, none⟩) n c] w fun e w' => e = .returned (.bool true) ∧ w = w' := by
  have H := hid (containsFig_yes S b off n c w hn hc hv)
  clear hc hv
  go_enter Tryd.func68, Tryd.ntmps68
  go_wp2_with (go_at_call 64; refine H.out.mono ?_; rintro e w' ⟨rfl, rfl⟩)
  go_ret
  exact ⟨rfl, rfl⟩

theorem valid_no (S : Nat → Int) (b off n c : Nat) (w : World) (hn : n ≤ 9223372036854775807) (hc : ∀ i, i < n → w.cell? ⟨b, off + i, none⟩ = some (.int .i64 (S i))) (hv : ¬ ∀ i, i < n → Fig (S i)) :
    Calls Tryd.prog 68 #[.slice (some ⟨b, off, none⟩) n c] w fun e w' => e = .returned (.bool false) ∧ w = w' := by
  have H := hid (containsFig_no S b off n c w hn hc hv)
  clear hc hv
  go_enter Tryd.func68, Tryd.ntmps68
  go_wp2_with (go_at_call 64; refine H.out.mono ?_; rintro e w' ⟨rfl, rfl⟩)
  go_ret
  exact ⟨rfl, rfl⟩
end Go.Proofs.YtcdbkgpgjjeoiaaDoor
/- Walks: Sum, Turned, Opposite, Name. -/
namespace Go.Proofs.YtcdbkgpgjjeoiaaDoor
open Go Go.RowKit
set_option maxRecDepth 100000

theorem vOne_yes (f : Int) (hf : Fig f) (b c : Nat) (w : World) (hc : w.cell? ⟨b, 0, none⟩ = some (.int .i64 f)) :
    Calls Tryd.prog 68 #[.slice (some ⟨b, 0, none⟩) 1 c] w fun e w' => e = .returned (.bool true) ∧ w = w' :=
  valid_yes (fun _ => f) b 0 1 c w (by omega) (fun i hi => by
    obtain rfl : i = 0 := by omega
    exact hc) (fun _ _ => hf)
theorem vOne_no (f : Int) (hf : ¬ Fig f) (b c : Nat) (w : World) (hc : w.cell? ⟨b, 0, none⟩ = some (.int .i64 f)) :
    Calls Tryd.prog 68 #[.slice (some ⟨b, 0, none⟩) 1 c] w fun e w' => e = .returned (.bool false) ∧ w = w' :=
  valid_no (fun _ => f) b 0 1 c w (by omega) (fun i hi => by
    obtain rfl : i = 0 := by omega
    exact hc) (fun h => hf (h 0 (by omega)))
theorem vTwo_yes (f g : Int) (hf : Fig f) (hg : Fig g) (b c : Nat) (w : World) (h0 : w.cell? ⟨b, 0, none⟩ = some (.int .i64 f)) (h1 : w.cell? ⟨b, 1, none⟩ = some (.int .i64 g)) :
    Calls Tryd.prog 68 #[.slice (some ⟨b, 0, none⟩) 2 c] w fun e w' => e = .returned (.bool true) ∧ w = w' :=
  valid_yes (fun i => if i = 0 then f else g) b 0 2 c w (by omega) (fun i hi => by
    rcases (show i = 0 ∨ i = 1 by omega) with rfl | rfl
    · exact h0
    · exact h1) (fun i _ => by show Fig (if i = 0 then f else g); split <;> assumption)
theorem vTwo_no (f g : Int) (hf : ¬ (Fig f ∧ Fig g)) (b c : Nat) (w : World) (h0 : w.cell? ⟨b, 0, none⟩ = some (.int .i64 f)) (h1 : w.cell? ⟨b, 1, none⟩ = some (.int .i64 g)) :
    Calls Tryd.prog 68 #[.slice (some ⟨b, 0, none⟩) 2 c] w fun e w' => e = .returned (.bool false) ∧ w = w' :=
  valid_no (fun i => if i = 0 then f else g) b 0 2 c w (by omega) (fun i hi => by
    rcases (show i = 0 ∨ i = 1 by omega) with rfl | rfl
    · exact h0
    · exact h1) (fun h => hf ⟨h 0 (by omega), h 1 (by omega)⟩)

/-- The figure upside down. -/
def rev4 (f : Nat) : Nat := f % 2 * 8 + f / 2 % 2 * 4 + f / 4 % 2 * 2 + f / 8 % 2

theorem rev4_lt (a : Nat) : rev4 a < 16 := by unfold rev4; omega
theorem sixteen {P : Nat → Prop} (h : ∀ i : Fin 16, P i) (a : Nat) (ha : a < 16) : P a := h ⟨a, ha⟩
end Go.Proofs.YtcdbkgpgjjeoiaaDoor
/- Walks: follows, derive, Derive. -/
namespace Go.Proofs.YtcdbkgpgjjeoiaaDoor
open Go Go.RowKit
set_option maxRecDepth 100000

set_option maxHeartbeats 400000 in
theorem follows_hi (F : Nat → Nat) (hF : ∀ i, i < 16 → F i < 16) (k : Nat) (hp : 8 ≤ k) (hp' : k < 16) (w : World) (L : Laid w) :
    Calls Tryd.prog 90 #[.agg (irow 16 (cst F)), .int .i64 (k : Nat)] w fun e w' => e = .returned (.int .i64 (fol F k : Nat)) ∧ Below w.heap.size w w' := by
  have h1 := L.par (k*2) (by omega)
  have h2 := L.par (k*2+1) (by omega)
  have hs0 := L.size.1
  have c1 : (par (k*2)).toNat < 16 := pa_lt k
  have c2 : (par (k*2+1)).toNat < 16 := pb_lt k
  have hx := hid (i64_xor (F (pa k)) (F (pb k)) (by have := hF _ c1; unfold pa; omega) (by have := hF _ c2; unfold pb; omega))
  have hfol := hid (show fol F k = F (pa k) ^^^ F (pb k) by unfold fol; rw [if_pos hp])
  obtain ⟨b1, b1'⟩ := par_bd (k*2)
  obtain ⟨b2, b2'⟩ := par_bd (k*2+1)
  clear L hF
  go_enter Tryd.func90, Tryd.ntmps90
  go_wp2_with fail
  go_quiet (fail)
  go_wp2_with fail
  go_ret
  exact ⟨by rw [hfol.out, ← hx.out]; rfl, below_drewN (((Below.refl _ _).alloc (Nat.le_refl _) _).alloc (by simp) _) _⟩

set_option maxHeartbeats 400000 in
theorem follows_lo (F : Nat → Nat) (hF : ∀ i, i < 16 → F i < 16) (k : Nat) (hp : 4 ≤ k) (hp' : k < 8) (w : World) :
    Calls Tryd.prog 90 #[.agg (irow 16 (cst F)), .int .i64 (k : Nat)] w fun e w' => e = .returned (.int .i64 (fol F k : Nat)) ∧ Below w.heap.size w w' := by
  have hn : ¬ (8 : Int) ≤ k := by omega
  have hk0 : 0 ≤ (k : Int) - 4 := by omega
  have hfol := hid (show fol F k = dg F (k - 4) 4 by unfold fol; rw [if_neg (by omega)])
  have HF := hid hF
  clear hF
  go_enter Tryd.func90, Tryd.ntmps90
  go_wp2_with fail
  go_loop [4, 21] (fun f i => ∃ n : Nat, n ≤ 4 ∧ i = .int .i64 n ∧ f = .int .i64 (dg F (k - 4) n : Nat)) (fun _ i => 4 - (intOf i).toNat)
  case atStart => exact ⟨0, by omega, rfl, rfl⟩
  case round =>
    obtain ⟨n, hn4, rfl, rfl⟩ := hrel
    by_cases hlt : n < 4
    · have hlt' : (n : Int) < 4 := by omega
      have hn16 : n < 16 := by omega
      have hFn := HF.out n (by omega)
      have hst := hid (dg_step F (k - 4) n hFn hlt)
      generalize hdd : dg F (k - 4) n = d at hst
      go_wp2_with fail
      go_round
      case rel => exact ⟨n + 1, by omega, by go_num, by rw [hst.out]⟩
      case measure => simp [intOf]; omega
    · have hge : ¬ (n : Int) < 4 := by omega
      obtain rfl : n = 4 := by omega
      go_wp2_with fail
      go_ret
      exact ⟨by rw [hfol.out]; rfl, (Below.refl _ _).alloc (Nat.le_refl _) _⟩

theorem follows_c (F : Nat → Nat) (hF : ∀ i, i < 16 → F i < 16) (k : Nat) (hp : 4 ≤ k) (hp' : k < 16) (w : World) (L : Laid w) :
    Calls Tryd.prog 90 #[.agg (irow 16 (cst F)), .int .i64 (k : Nat)] w fun e w' => e = .returned (.int .i64 (fol F k : Nat)) ∧ Below w.heap.size w w' := by
  by_cases h : 8 ≤ k
  · exact follows_hi F hF k h hp' w L
  · exact follows_lo F hF k hp (by omega) w

theorem zcst : (fun _ => 0 : Nat → Int) = cst (fun _ => 0) := rfl

set_option maxHeartbeats 1000000 in
theorem derive_c (M : Nat → Nat) (hM : ∀ i, i < 4 → M i < 16) (w : World) (L : Laid w) :
    Calls Tryd.prog 69 #[.agg (irow 4 (cst M))] w fun e w' => e = .returned (.agg (irow 16 (cst (der M)))) ∧ Below w.heap.size w w' := by
  have hcp := copy_irow (P := Tryd.prog) ((w.alloc (.cells (irow 4 (cst M)) 98)).alloc (.cells (irow 16 (fun _ => 0)) 88)).drew 80 80 3 22 (w.heap.size + 1) w.heap.size 16 4 16 4 _ _ 88 98 (by kernel_rfl) (by kernel_rfl) (heap_alloc2_new w _ _) (heap_alloc2_old w _ _) (by omega)
  have hg0 := setRow_heap ((w.alloc (.cells (irow 4 (cst M)) 98)).alloc (.cells (irow 16 (fun _ => 0)) 88)).drew (w.heap.size + 1) _ (irow 16 (over 4 (cst M) (fun _ => 0))) 88 (0, 0) (heap_alloc2_new w _ _)
  have hb0 : Below w.heap.size w (((w.alloc (.cells (irow 4 (cst M)) 98)).alloc (.cells (irow 16 (fun _ => 0)) 88)).drew.setRow (w.heap.size + 1) (irow 16 (over 4 (cst M) (fun _ => 0)))) :=
    below_setRow (((Below.refl _ _).alloc (Nat.le_refl _) _).alloc (by simp) _).drew (by omega) _
  rw [← zeros16] at hcp
  rw [zcst, over_cst] at hg0 hb0
  rw [zcst, over_cst] at hcp
  have HU := hid (up_lt M hM)
  clear hM
  go_enter Tryd.func69, Tryd.ntmps69
  go_wp2_with fail
  go_region
  clear hcp
  rw [← zcst, zeros16] at *
  generalize hW : (((w.alloc (.cells (irow 4 (cst M)) 98)).alloc (.cells (irow 16 (fun _ => 0)) 88)).drew.setRow (w.heap.size + 1) (irow 16 (cst (overN 4 M (fun _ => 0))))) = w1 at *
  clear hW
  have HL := hid L
  clear L
  go_wp2_with fail
  go_loopw [3] (fun i wr => ∃ n : Nat, n ≤ 12 ∧ i = .int .i64 ((n + 4 : Nat) : Int) ∧ wr.heap[w.heap.size + 1]? = some (.cells (irow 16 (cst (up M n))) 88 (0, 0)) ∧ Below w.heap.size w wr) (fun i _ => 16 - (intOf i).toNat)
  case atStart => exact ⟨0, by omega, rfl, hg0, hb0⟩
  case round =>
    clear hg0 hb0
    obtain ⟨n, hn, rfl, hg, hb⟩ := hrel
    by_cases hlt : n < 12
    · have hlt' : ((n + 4 : Nat) : Int) < 16 := by omega
      have hn16 : n + 4 < 16 := by omega
      have hlt2 := heap_lt hg
      have hL : Laid wr := HL.out.below hb
      have hcall := hid (fun w (L : Laid w) => follows_c (up M n) (HU.out n) (n + 4) (by omega) (by omega) w L)
      go_wp2_with (first | (refine ldrow arrShield _ rfl rfl _ rfl _ _ hg ?_) | (go_at_call 90; refine (hcall.out _ hL).mono ?_; rintro e w2 ⟨rfl, hb2⟩; have hg2 := heap_below hb2 hg hlt2; have hc2 := cell_irow hg2 (n + 4) hn16; have hf2 := frozen_of_row _ _ (n + 4) _ _ hg2))
      go_roundw
      case rel => exact ⟨n + 1, by omega, by go_num, by rw [set_irow hg2, upd_cst]; rfl, (hb.trans (hb2.mono (by omega))).setCell (by simp) _⟩
      case measure => simp [intOf]; omega
    · have hge : ¬ ((n + 4 : Nat) : Int) < 16 := by omega
      obtain rfl : n = 12 := by omega
      go_wp2_with (first | (refine ldrow arrShield _ rfl rfl _ rfl _ _ hg ?_) | (refine strow arrShield _ _ rfl rfl _ _ rfl rfl _ _ hg ?_))
      exact retrow arrShield Tryd.results69 (w.heap.size + 1) _ _ rfl (setRow_heap _ _ _ _ _ _ hg) rfl ⟨rfl, below_setRow hb (by omega) _⟩

end Go.Proofs.YtcdbkgpgjjeoiaaDoor
/- Walks: Derive, number, Number, mothers, Mothers. -/
namespace Go.Proofs.YtcdbkgpgjjeoiaaDoor
open Go Go.RowKit
set_option maxRecDepth 100000

set_option maxHeartbeats 200000 in
theorem Derive_yes (M : Nat → Nat) (hM : ∀ i, i < 4 → M i < 16) (w : World) (L : Laid w) :
    Calls Tryd.prog 45 #[.agg (irow 4 (cst M))] w fun e w' => e = .returned (.tuple #[.agg (irow 16 (cst (der M))), .int .i64 0]) ∧ Below w.heap.size w w' := by
  have h0 := heap_alloc2_old w (.cells (irow 4 (cst M)) 98) (.cells (irow 16 (fun _ => 0)) 88)
  have h1 := heap_alloc2_new w (.cells (irow 4 (cst M)) 98) (.cells (irow 16 (fun _ => 0)) 88)
  have hb : Below w.heap.size w ((w.alloc (.cells (irow 4 (cst M)) 98)).alloc (.cells (irow 16 (fun _ => 0)) 88)) := ((Below.refl _ _).alloc (Nat.le_refl _) _).alloc (by simp) _
  have HV := hid (valid_yes (cst M) w.heap.size 0 4 4 _ (by omega) (fun i hi => by rw [Nat.zero_add]; exact cell_irow h0 i hi) (fun i hi => ⟨by simp, by have := hM i hi; simp; omega⟩))
  have HD := hid (derive_c M hM _ (L.below hb))
  rw [← zeros16] at h0 h1 hb HV HD
  clear L hM
  go_enter Tryd.func45, Tryd.ntmps45
  go_wp2_with (first | (go_at_call 68; refine HV.out.mono ?_; rintro e w' ⟨rfl, rfl⟩) | (refine ldrow arrMothers _ rfl rfl _ rfl _ _ h0 ?_) | (go_at_call 69; refine HD.out.mono ?_; rintro e w2 ⟨rfl, hb2⟩; have h2 := heap_below hb2 h1 (by simp); rw [zeros16] at h2; clear h1) | (refine strow arrShield _ _ rfl rfl _ _ rfl rfl _ _ h2 ?_))
  exact retrow2 arrShield Tryd.results45 (w.heap.size + 1) _ _ _ rfl rfl (setRow_heap _ _ _ _ _ _ h2) rfl ⟨rfl, below_setRow (hb.trans (hb2.mono (by simp; omega))) (by omega) _⟩

theorem validM_no (S : Nat → Int) (hS : ¬ ∀ i, i < 4 → Fig (S i)) (g c : Nat) (w : World) (t : TypeId) (hg : w.heap[g]? = some (.cells (irow 4 S) t (0, 0))) :
    Calls Tryd.prog 68 #[.slice (some ⟨g, 0, none⟩) 4 c] w fun e w' => e = .returned (.bool false) ∧ w = w' :=
  valid_no S g 0 4 c w (by omega) (fun i hi => by rw [Nat.zero_add]; exact cell_irow hg i hi) hS
theorem validM_yes (S : Nat → Int) (hS : ∀ i, i < 4 → Fig (S i)) (g c : Nat) (w : World) (t : TypeId) (hg : w.heap[g]? = some (.cells (irow 4 S) t (0, 0))) :
    Calls Tryd.prog 68 #[.slice (some ⟨g, 0, none⟩) 4 c] w fun e w' => e = .returned (.bool true) ∧ w = w' :=
  valid_yes S g 0 4 c w (by omega) (fun i hi => by rw [Nat.zero_add]; exact cell_irow hg i hi) hS
theorem validS_no (S : Nat → Int) (hS : ¬ ∀ i, i < 16 → Fig (S i)) (g c : Nat) (w : World) (t : TypeId) (hg : w.heap[g]? = some (.cells (irow 16 S) t (0, 0))) :
    Calls Tryd.prog 68 #[.slice (some ⟨g, 0, none⟩) 16 c] w fun e w' => e = .returned (.bool false) ∧ w = w' :=
  valid_no S g 0 16 c w (by omega) (fun i hi => by rw [Nat.zero_add]; exact cell_irow hg i hi) hS
theorem validS_yes (S : Nat → Int) (hS : ∀ i, i < 16 → Fig (S i)) (g c : Nat) (w : World) (t : TypeId) (hg : w.heap[g]? = some (.cells (irow 16 S) t (0, 0))) :
    Calls Tryd.prog 68 #[.slice (some ⟨g, 0, none⟩) 16 c] w fun e w' => e = .returned (.bool true) ∧ w = w' :=
  valid_yes S g 0 16 c w (by omega) (fun i hi => by rw [Nat.zero_add]; exact cell_irow hg i hi) hS

set_option maxHeartbeats 400000 in
theorem Derive_no (S : Nat → Int) (hS : ¬ ∀ i, i < 4 → Fig (S i)) (w : World) :
    Calls Tryd.prog 45 #[.agg (irow 4 S)] w fun e w' => e = .returned (.tuple #[.agg (irow 16 (fun _ => 0)), .int .i64 2]) ∧ Below w.heap.size w w' := by
  have h0 := heap_alloc2_old w (.cells (irow 4 S) 98) (.cells (irow 16 (fun _ => 0)) 88)
  have h1 := heap_alloc2_new w (.cells (irow 4 S) 98) (.cells (irow 16 (fun _ => 0)) 88)
  have hb : Below w.heap.size w ((w.alloc (.cells (irow 4 S) 98)).alloc (.cells (irow 16 (fun _ => 0)) 88)) := ((Below.refl _ _).alloc (Nat.le_refl _) _).alloc (by simp) _
  have HV := hid (validM_no S hS w.heap.size 4 _ _ h0)
  clear hS
  generalize hw1 : ((w.alloc (.cells (irow 4 S) 98)).alloc (.cells (irow 16 (fun _ => 0)) 88)) = w1 at *
  have Hw := hid hw1
  clear hw1
  go_enter Tryd.func45, Tryd.ntmps45
  go_wp2_with (first | (go_at_call 68; rw [zeros16, Hw.out]; refine HV.out.mono ?_; rintro e w' ⟨rfl, rfl⟩) | (refine strow arrShield _ _ rfl rfl _ (fun _ => 0) rfl rfl _ _ h1 ?_))
  exact retrow2 arrShield Tryd.results45 (w.heap.size + 1) _ _ _ rfl rfl (setRow_heap _ _ _ _ _ _ h1) rfl ⟨rfl, below_setRow hb (by omega) _⟩

set_option maxHeartbeats 400000 in
theorem mothers_c (n : Nat) (hn : n < 65536) (w : World) :
    Calls Tryd.prog 67 #[.int .i64 n] w fun e w' => e = .returned (.agg (irow 4 (cst (mths n)))) ∧ Below w.heap.size w w' := by
  have h0 := heap_alloc_new w (.cells (irow 4 (fun _ => 0)) 98)
  have hb0 : Below w.heap.size w (w.alloc (.cells (irow 4 (fun _ => 0)) 98)) := (Below.refl _ _).alloc (Nat.le_refl _) _
  go_enter Tryd.func67, Tryd.ntmps67
  go_wp2_with fail
  rw [zeros4]
  generalize hW : w.alloc (.cells (irow 4 (fun _ => 0)) 98) = w1 at *
  clear hW
  go_loopw [4] (fun i wr => ∃ k : Nat, k ≤ 4 ∧ i = .int .i64 k ∧ wr.heap[w.heap.size]? = some (.cells (irow 4 (cst (mthsTo n k))) 98 (0, 0)) ∧ Below w.heap.size w wr) (fun i _ => 4 - (intOf i).toNat)
  case atStart =>
    refine ⟨0, by omega, rfl, ?_, hb0⟩
    rw [h0, show irow 4 (fun _ => 0) = irow 4 (cst (mthsTo n 0)) from irow_congr fun i hi => by simp only [cst, mthsTo]; rw [if_neg (by omega)]; rfl]
  case round =>
    clear h0 hb0
    obtain ⟨k, hk, rfl, hg, hb⟩ := hrel
    by_cases hlt : k < 4
    · have hlt' : (k : Int) < 4 := by omega
      have hc := cell_irow hg (3 - k) (by omega)
      have hf := frozen_of_row _ _ (3 - k) _ _ hg
      have hst := hid (mths_step n k hn hlt)
      go_wp2_with fail
      go_roundw
      case rel => exact ⟨k + 1, by omega, by go_num, by rw [hst.out, set_irow hg, mthsTo_step n k hlt], hb.setCell (by simp) _⟩
      case measure => simp [intOf]; omega
    · have hge : ¬ (k : Int) < 4 := by omega
      obtain rfl : k = 4 := by omega
      have hg4 : wr.heap[w.heap.size]? = some (.cells (irow 4 (cst (mths n))) 98 (0, 0)) := by
        rw [hg, show irow 4 (cst (mthsTo n 4)) = irow 4 (cst (mths n)) from irow_congr fun i hi => by simp only [cst, mthsTo, mths]; rw [if_pos (by omega)]]
      clear hg
      go_wp2_with (first | (refine ldrow arrMothers _ rfl rfl _ rfl _ _ hg4 ?_) | (refine strow arrMothers _ _ rfl rfl _ _ rfl rfl _ _ hg4 ?_))
      exact retrow arrMothers Tryd.results67 w.heap.size _ _ rfl (setRow_heap _ _ _ _ _ _ hg4) rfl ⟨rfl, below_setRow hb (Nat.le_refl _) _⟩

set_option maxHeartbeats 400000 in
theorem Mothers_yes (n : Nat) (hn : n < 65536) (w : World) :
    Calls Tryd.prog 44 #[.int .i64 n] w fun e w' => e = .returned (.tuple #[.agg (irow 4 (cst (mths n))), .int .i64 0]) ∧ Below w.heap.size w w' := by
  have h0 := heap_alloc_new w (.cells (irow 4 (fun _ => 0)) 98)
  have hb : Below w.heap.size w (w.alloc (.cells (irow 4 (fun _ => 0)) 98)) := (Below.refl _ _).alloc (Nat.le_refl _) _
  have HM := hid (mothers_c n hn (w.alloc (.cells (irow 4 (fun _ => 0)) 98)))
  have a1 : decide (((n : Nat) : Int) < 0) = false := by simp
  have a2 : decide (65536 ≤ ((n : Nat) : Int)) = false := by simp; omega
  generalize hw1 : w.alloc (.cells (irow 4 (fun _ => 0)) 98) = w1 at *
  have Hw := hid hw1
  clear hw1
  go_enter Tryd.func44, Tryd.ntmps44
  go_wp2_with (first | (go_at_call 67; rw [zeros4, Hw.out]; refine HM.out.mono ?_; rintro e w2 ⟨rfl, hb2⟩; have h2 := heap_below hb2 h0 (by rw [← Hw.out]; simp)) | (refine strow arrMothers _ _ rfl rfl _ _ rfl rfl _ _ h2 ?_))
  exact retrow2 arrMothers Tryd.results44 w.heap.size _ _ _ rfl rfl (setRow_heap _ _ _ _ _ _ h2) rfl ⟨rfl, below_setRow (hb.trans (hb2.mono (by rw [← Hw.out]; simp))) (Nat.le_refl _) _⟩

set_option maxHeartbeats 400000 in
theorem Mothers_no (n : Int) (hn : n < 0 ∨ 65535 < n) (w : World) :
    Calls Tryd.prog 44 #[.int .i64 n] w fun e w' => e = .returned (.tuple #[.agg (irow 4 (fun _ => 0)), .int .i64 3]) ∧ Below w.heap.size w w' := by
  have h0 := heap_alloc_new w (.cells (irow 4 (fun _ => 0)) 98)
  have hb : Below w.heap.size w (w.alloc (.cells (irow 4 (fun _ => 0)) 98)) := (Below.refl _ _).alloc (Nat.le_refl _) _
  have hq : ∀ b : Bool, decide (n < 0) = b → (b = false → decide (65536 ≤ n) = true) → Calls Tryd.prog 44 #[.int .i64 n] w fun e w' => e = .returned (.tuple #[.agg (irow 4 (fun _ => 0)), .int .i64 3]) ∧ Below w.heap.size w w' := by
    intro b a1 a2
    cases b with
    | true =>
      clear a2 hn
      go_enter Tryd.func44, Tryd.ntmps44
      go_wp2
      refine bodyPost_ret (v := .tuple #[.agg (irow 4 (fun _ => 0)), .int .i64 3]) (by rw [← zeros4]; simp [results, Tryd.results44, go_sem]) rfl ⟨rfl, ?_⟩
      rw [zeros4]; exact hb
    | false =>
      have a3 := a2 rfl
      clear a2 hn
      go_enter Tryd.func44, Tryd.ntmps44
      go_wp2
      refine bodyPost_ret (v := .tuple #[.agg (irow 4 (fun _ => 0)), .int .i64 3]) (by rw [← zeros4]; simp [results, Tryd.results44, go_sem]) rfl ⟨rfl, ?_⟩
      rw [zeros4]; exact hb
  exact hq _ rfl fun h => by simp at h ⊢; omega
end Go.Proofs.YtcdbkgpgjjeoiaaDoor
