/- Walks: Check, valid, one, Sum, Turned, Opposite, Name, lines. -/
import Derived.Test.YtphnibllfpkkkaaDoorPlain
namespace Go.Proofs.YtphnibllfpkkkaaDoor
open Go Go.RowKit
set_option maxRecDepth 100000

theorem check_yes (f : Int) (h0 : 0 ≤ f) (h1 : f ≤ 15) (w : World) : Calls Tryd.prog 28 #[.int .i64 f] w fun e w' => e = .returned (.int .i64 0) ∧ w = w' := by
  have a1 : decide (f < 0) = false := by simp; omega
  have a2 : decide (15 < f) = false := by simp; omega
  go_enter Tryd.func28, Tryd.ntmps28
  go_wp2
  go_ret
  exact ⟨rfl, rfl⟩

theorem check_no (f : Int) (h : ¬ Fig f) (w : World) : Calls Tryd.prog 28 #[.int .i64 f] w fun e w' => e = .returned (.int .i64 2) ∧ w = w' := by
  unfold Fig at h
  by_cases h0 : f < 0
  · have a1 : decide (f < 0) = true := by simp; omega
    go_enter Tryd.func28, Tryd.ntmps28
    go_wp2
    go_ret
    exact ⟨rfl, rfl⟩
  · have a1 : decide (f < 0) = false := by simp; omega
    have a2 : decide (15 < f) = true := by simp; omega
    go_enter Tryd.func28, Tryd.ntmps28
    go_wp2
    go_ret
    exact ⟨rfl, rfl⟩

theorem valid1_yes (f : Int) (h0 : 0 ≤ f) (h1 : f ≤ 15) (w : World) : Calls Tryd.prog 76 #[.int .i64 f] w fun e w' => e = .returned (.bool false) ∧ w = w' := by
  go_enter Tryd.func76, Tryd.ntmps76
  go_wp2_with (go_at_call 28; refine (check_yes f h0 h1 _).mono ?_; rintro e w' ⟨rfl, rfl⟩)
  go_ret
  exact ⟨rfl, rfl⟩

theorem valid1_no (f : Int) (h : ¬ Fig f) (w : World) : Calls Tryd.prog 76 #[.int .i64 f] w fun e w' => e = .returned (.bool true) ∧ w = w' := by
  go_enter Tryd.func76, Tryd.ntmps76
  go_wp2_with (go_at_call 28; refine (check_no f h _).mono ?_; rintro e w' ⟨rfl, rfl⟩)
  go_ret
  exact ⟨rfl, rfl⟩

theorem indexFig_yes (S : Nat → Int) (b off n c : Nat) (w : World) (hn : n ≤ 9223372036854775807) (hc : ∀ i, i < n → w.cell? ⟨b, off + i, none⟩ = some (.int .i64 (S i))) (hv : ∀ i, i < n → Fig (S i)) :
    Calls Tryd.prog 85 #[.slice (some ⟨b, off, none⟩) n c, .func (.func 76) #[] #[]] w fun e w' => e = .returned (.int .i64 (-1)) ∧ w = w' := by
  have HC := hid hc
  have HV := hid hv
  clear hc hv
  go_enter Tryd.func85, Tryd.ntmps85
  go_wp2
  go_loop [8] (fun i => ∃ k : Nat, k ≤ n ∧ i = .int .i64 k) (fun i => n - (intOf i).toNat)
  case atStart => exact ⟨0, Nat.zero_le _, rfl⟩
  case round =>
    obtain ⟨k, hk, rfl⟩ := hrel
    by_cases hlt : k < n
    · have hcell := HC.out k hlt
      have hf := HV.out k hlt
      unfold Fig at hf
      obtain ⟨hf0, hf1⟩ := hf
      go_wp2_with (go_at_call 76; refine (valid1_yes (S k) hf0 hf1 _).mono ?_; rintro e w' ⟨rfl, rfl⟩)
      go_round
      case rel => exact ⟨k + 1, by omega, by go_num⟩
      case measure => simp [intOf]; omega
    · go_wp2
      go_ret
      exact ⟨rfl, rfl⟩

theorem indexFig_no (S : Nat → Int) (j : Nat) (b off n c : Nat) (w : World) (hn : n ≤ 9223372036854775807) (hc : ∀ i, i < n → w.cell? ⟨b, off + i, none⟩ = some (.int .i64 (S i))) (hj : j < n) (hv : ∀ i, i < j → Fig (S i)) (hb : ¬ Fig (S j)) :
    Calls Tryd.prog 85 #[.slice (some ⟨b, off, none⟩) n c, .func (.func 76) #[] #[]] w fun e w' => e = .returned (.int .i64 j) ∧ w = w' := by
  have HC := hid hc
  have HV := hid hv
  have HB := hid hb
  clear hc hv hb
  go_enter Tryd.func85, Tryd.ntmps85
  go_wp2
  go_loop [8] (fun i => ∃ k : Nat, k ≤ j ∧ i = .int .i64 k) (fun i => n - (intOf i).toNat)
  case atStart => exact ⟨0, Nat.zero_le _, rfl⟩
  case round =>
    obtain ⟨k, hk, rfl⟩ := hrel
    have hcell := HC.out k (by omega)
    have hlt' : (k : Int) < n := by omega
    by_cases hlt : k < j
    · have hf := HV.out k hlt
      unfold Fig at hf
      obtain ⟨hf0, hf1⟩ := hf
      go_wp2_with (go_at_call 76; refine (valid1_yes (S k) hf0 hf1 _).mono ?_; rintro e w' ⟨rfl, rfl⟩)
      go_round
      case rel => exact ⟨k + 1, by omega, by go_num⟩
      case measure => simp [intOf]; omega
    · obtain rfl : k = j := by omega
      go_wp2_with (go_at_call 76; refine (valid1_no (S k) HB.out _).mono ?_; rintro e w' ⟨rfl, rfl⟩)
      go_ret
      exact ⟨rfl, rfl⟩

theorem containsFig_yes (S : Nat → Int) (b off n c : Nat) (w : World) (hn : n ≤ 9223372036854775807) (hc : ∀ i, i < n → w.cell? ⟨b, off + i, none⟩ = some (.int .i64 (S i))) (hv : ∀ i, i < n → Fig (S i)) :
    Calls Tryd.prog 75 #[.slice (some ⟨b, off, none⟩) n c, .func (.func 76) #[] #[]] w fun e w' => e = .returned (.bool false) ∧ w = w' := by
  have H := hid (indexFig_yes S b off n c w hn hc hv)
  clear hc hv
  go_enter Tryd.func75, Tryd.ntmps75
  go_wp2_with (go_at_call 85; refine H.out.mono ?_; rintro e w' ⟨rfl, rfl⟩)
  go_ret
  exact ⟨rfl, rfl⟩

theorem containsFig_no (S : Nat → Int) (b off n c : Nat) (w : World) (hn : n ≤ 9223372036854775807) (hc : ∀ i, i < n → w.cell? ⟨b, off + i, none⟩ = some (.int .i64 (S i))) (hv : ¬ ∀ i, i < n → Fig (S i)) :
    Calls Tryd.prog 75 #[.slice (some ⟨b, off, none⟩) n c, .func (.func 76) #[] #[]] w fun e w' => e = .returned (.bool true) ∧ w = w' := by
  have hex : ∃ j, j < n ∧ ¬ Fig (S j) := by
    apply Classical.byContradiction
    intro h
    exact hv fun i hi => Classical.byContradiction fun hb => h ⟨i, hi, hb⟩
  obtain ⟨j, ⟨hj, hb⟩, hl⟩ := exists_least hex
  have H := hid (indexFig_no S j b off n c w hn hc hj (fun i hi => Classical.byContradiction fun hb => absurd (hl i ⟨by omega, hb⟩) (by omega)) hb)
  clear hc hv hex hl hb
  have hj0 : (0 : Int) ≤ j := by omega
  go_enter Tryd.func75, Tryd.ntmps75
  go_wp2_with (go_at_call 85; refine H.out.mono ?_; rintro e w' ⟨rfl, rfl⟩)
  go_ret
  exact ⟨by simp, rfl⟩

theorem valid_yes (S : Nat → Int) (b off n c : Nat) (w : World) (hn : n ≤ 9223372036854775807) (hc : ∀ i, i < n → w.cell? ⟨b, off + i, none⟩ = some (.int .i64 (S i))) (hv : ∀ i, i < n → Fig (S i)) :
    Calls Tryd.prog 50 #[.slice (some ⟨b, off, none⟩) n c] w fun e w' => e = .returned (.bool true) ∧ w = w' := by
  have H := hid (containsFig_yes S b off n c w hn hc hv)
  clear hc hv
  go_enter Tryd.func50, Tryd.ntmps50
  go_wp2_with (go_at_call 75; refine H.out.mono ?_; rintro e w' ⟨rfl, rfl⟩)
  go_ret
  exact ⟨rfl, rfl⟩

theorem valid_no (S : Nat → Int) (b off n c : Nat) (w : World) (hn : n ≤ 9223372036854775807) (hc : ∀ i, i < n → w.cell? ⟨b, off + i, none⟩ = some (.int .i64 (S i))) (hv : ¬ ∀ i, i < n → Fig (S i)) :
    Calls Tryd.prog 50 #[.slice (some ⟨b, off, none⟩) n c] w fun e w' => e = .returned (.bool false) ∧ w = w' := by
  have H := hid (containsFig_no S b off n c w hn hc hv)
  clear hc hv
  go_enter Tryd.func50, Tryd.ntmps50
  go_wp2_with (go_at_call 75; refine H.out.mono ?_; rintro e w' ⟨rfl, rfl⟩)
  go_ret
  exact ⟨rfl, rfl⟩
end Go.Proofs.YtphnibllfpkkkaaDoor
