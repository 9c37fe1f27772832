/- The closures of Count, and slices.ContainsFunc over them. -/
import Derived.Test.YtphnibllfpkkkaaDoorW15
namespace Go.Proofs.YtphnibllfpkkkaaDoor
open Go Go.RowKit
set_option maxRecDepth 100000

theorem count1_yes (n : Int) (h0 : 0 ≤ n) (h1 : n ≤ 65535) (w : World) : Calls Tryd.prog 68 #[.int .i64 n] w fun e w' => e = .returned (.bool false) ∧ w = w' := by
  have a1 : decide (n < 0) = false := by simp; omega
  have a2 : decide (65535 < n) = false := by simp; omega
  go_enter Tryd.func68, Tryd.ntmps68
  go_wp2
  go_ret
  exact ⟨rfl, rfl⟩
theorem count1_no (n : Int) (h : ¬ (0 ≤ n ∧ n ≤ 65535)) (w : World) : Calls Tryd.prog 68 #[.int .i64 n] w fun e w' => e = .returned (.bool true) ∧ w = w' := by
  by_cases h0 : n < 0
  · have a1 : decide (n < 0) = true := by simp; omega
    go_enter Tryd.func68, Tryd.ntmps68
    go_wp2
    go_ret
    exact ⟨rfl, rfl⟩
  · have a1 : decide (n < 0) = false := by simp; omega
    have a2 : decide (65535 < n) = true := by simp; omega
    go_enter Tryd.func68, Tryd.ntmps68
    go_wp2
    go_ret
    exact ⟨rfl, rfl⟩
/-- A set of figures. -/
def FSet (n : Int) : Prop := 0 ≤ n ∧ n ≤ 65535
theorem indexSet_yes (S : Nat → Int) (b off n c : Nat) (w : World) (hn : n ≤ 9223372036854775807) (hc : ∀ i, i < n → w.cell? ⟨b, off + i, none⟩ = some (.int .i64 (S i))) (hv : ∀ i, i < n → FSet (S i)) :
    Calls Tryd.prog 81 #[.slice (some ⟨b, off, none⟩) n c, .func (.func 68) #[] #[]] w fun e w' => e = .returned (.int .i64 (-1)) ∧ w = w' := by
  have HC := hid hc
  have HV := hid hv
  clear hc hv
  go_enter Tryd.func81, Tryd.ntmps81
  go_wp2
  go_loop [8] (fun i => ∃ k : Nat, k ≤ n ∧ i = .int .i64 k) (fun i => n - (intOf i).toNat)
  case atStart => exact ⟨0, Nat.zero_le _, rfl⟩
  case round =>
    obtain ⟨k, hk, rfl⟩ := hrel
    by_cases hlt : k < n
    · have hcell := HC.out k hlt
      have hf := HV.out k hlt
      unfold FSet at hf
      obtain ⟨hf0, hf1⟩ := hf
      go_wp2_with (go_at_call 68; refine (count1_yes (S k) hf0 hf1 _).mono ?_; rintro e w' ⟨rfl, rfl⟩)
      go_round
      case rel => exact ⟨k + 1, by omega, by go_num⟩
      case measure => simp [intOf]; omega
    · go_wp2
      go_ret
      exact ⟨rfl, rfl⟩
theorem indexSet_no (S : Nat → Int) (j : Nat) (b off n c : Nat) (w : World) (hn : n ≤ 9223372036854775807) (hc : ∀ i, i < n → w.cell? ⟨b, off + i, none⟩ = some (.int .i64 (S i))) (hj : j < n) (hv : ∀ i, i < j → FSet (S i)) (hb : ¬ FSet (S j)) :
    Calls Tryd.prog 81 #[.slice (some ⟨b, off, none⟩) n c, .func (.func 68) #[] #[]] w fun e w' => e = .returned (.int .i64 j) ∧ w = w' := by
  have HC := hid hc
  have HV := hid hv
  have HB := hid hb
  clear hc hv hb
  go_enter Tryd.func81, Tryd.ntmps81
  go_wp2
  go_loop [8] (fun i => ∃ k : Nat, k ≤ j ∧ i = .int .i64 k) (fun i => n - (intOf i).toNat)
  case atStart => exact ⟨0, Nat.zero_le _, rfl⟩
  case round =>
    obtain ⟨k, hk, rfl⟩ := hrel
    have hcell := HC.out k (by omega)
    have hlt' : (k : Int) < n := by omega
    by_cases hlt : k < j
    · have hf := HV.out k hlt
      unfold FSet at hf
      obtain ⟨hf0, hf1⟩ := hf
      go_wp2_with (go_at_call 68; refine (count1_yes (S k) hf0 hf1 _).mono ?_; rintro e w' ⟨rfl, rfl⟩)
      go_round
      case rel => exact ⟨k + 1, by omega, by go_num⟩
      case measure => simp [intOf]; omega
    · obtain rfl : k = j := by omega
      go_wp2_with (go_at_call 68; refine (count1_no (S k) HB.out _).mono ?_; rintro e w' ⟨rfl, rfl⟩)
      go_ret
      exact ⟨rfl, rfl⟩
theorem containsSet_yes (S : Nat → Int) (b off n c : Nat) (w : World) (hn : n ≤ 9223372036854775807) (hc : ∀ i, i < n → w.cell? ⟨b, off + i, none⟩ = some (.int .i64 (S i))) (hv : ∀ i, i < n → FSet (S i)) :
    Calls Tryd.prog 67 #[.slice (some ⟨b, off, none⟩) n c, .func (.func 68) #[] #[]] w fun e w' => e = .returned (.bool false) ∧ w = w' := by
  have H := hid (indexSet_yes S b off n c w hn hc hv)
  clear hc hv
  go_enter Tryd.func67, Tryd.ntmps67
  go_wp2_with (go_at_call 81; refine H.out.mono ?_; rintro e w' ⟨rfl, rfl⟩)
  go_ret
  exact ⟨rfl, rfl⟩
theorem containsSet_no (S : Nat → Int) (b off n c : Nat) (w : World) (hn : n ≤ 9223372036854775807) (hc : ∀ i, i < n → w.cell? ⟨b, off + i, none⟩ = some (.int .i64 (S i))) (hv : ¬ ∀ i, i < n → FSet (S i)) :
    Calls Tryd.prog 67 #[.slice (some ⟨b, off, none⟩) n c, .func (.func 68) #[] #[]] w fun e w' => e = .returned (.bool true) ∧ w = w' := by
  have hex : ∃ j, j < n ∧ ¬ FSet (S j) := by
    apply Classical.byContradiction
    intro h
    exact hv fun i hi => Classical.byContradiction fun hb => h ⟨i, hi, hb⟩
  obtain ⟨j, ⟨hj, hb⟩, hl⟩ := exists_least hex
  have H := hid (indexSet_no S j b off n c w hn hc hj (fun i hi => Classical.byContradiction fun hb => absurd (hl i ⟨by omega, hb⟩) (by omega)) hb)
  clear hc hv hex hl hb
  have hj0 : (0 : Int) ≤ j := by omega
  go_enter Tryd.func67, Tryd.ntmps67
  go_wp2_with (go_at_call 81; refine H.out.mono ?_; rintro e w' ⟨rfl, rfl⟩)
  go_ret
  exact ⟨by simp, rfl⟩

theorem u64_and15 (a : Nat) (ha : a < 18446744073709551616) : bits .and .u64 ((a : Nat) : Int) 15 = ((a % 16 : Nat) : Int) := by
  rw [show (15 : Int) = ((15 : Nat) : Int) from rfl, u64_and a 15 ha (by omega), nat_mask4]
theorem bit_of (s f : Nat) (hs : s < 65536) : (bits .and .i64 (((s : Nat) : Int) / 2 ^ f) 1 == 0) = !bitB s f := by
  have e1 : ((s : Nat) : Int) / 2 ^ f = ((s / 2 ^ f : Nat) : Int) := by push_cast; rfl
  have hlt : s / 2 ^ f < 65536 := Nat.lt_of_le_of_lt (Nat.div_le_self _ _) hs
  rw [e1, i64_and1 _ (by omega)]
  unfold bitB
  have := Nat.mod_lt (s / 2 ^ f) (show 0 < 2 by omega)
  rw [Bool.eq_iff_iff]; simp; omega

set_option maxHeartbeats 800000 in
theorem count2_c (S : Nat → Nat) (x k : Nat) (hk : k < 16) (hS : S k < 65536) (hx : x < 18446744073709551616) (Bs Bw : Nat) (w : World) (hs : w.heap[Bs]? = some (.cells (irow 16 (cst S)) 78 (0, 0))) (hw : w.cell? ⟨Bw, 0, none⟩ = some (.int .u64 ((x : Nat) : Int))) :
    Calls Tryd.prog 70 #[.int .i64 (k : Nat), .pointer (some ⟨Bs, 0, none⟩), .pointer (some ⟨Bw, 0, none⟩)] w fun e w' => e = .returned (.bool (!bitB (S k) (x / 2 ^ (4 * k) % 16))) ∧ ∃ n, w' = w.drewN n := by
  have hcs : w.cell? ⟨Bs, k, none⟩ = some (.int .i64 ((S k : Nat) : Int)) := cell_irow hs k hk
  obtain ⟨q, hq⟩ : ∃ q : Nat, 4 * k = q := ⟨_, rfl⟩
  rw [hq]
  have hq' : 4 * ((k : Nat) : Int) = (q : Nat) := by omega
  have hwq := wrap_nat q (by omega)
  have hd : ((x : Nat) : Int) / 2 ^ q = ((x / 2 ^ q : Nat) : Int) := by push_cast; rfl
  have hdl : x / 2 ^ q < 18446744073709551616 := Nat.lt_of_le_of_lt (Nat.div_le_self _ _) hx
  have h15 := u64_and15 _ hdl
  have hf : x / 2 ^ q % 16 < 16 := Nat.mod_lt _ (by omega)
  have hb := hid (bit_of (S k) (x / 2 ^ q % 16) hS)
  have hk' : ((k : Nat) : Int) < 16 := by omega
  generalize x / 2 ^ q % 16 = f at *
  generalize x / 2 ^ q = y at *
  generalize S k = s at *
  clear hs hdl hx hq hS
  go_enter Tryd.func70, Tryd.ntmps70
  go_wp2_with fail
  go_quiet (fail)
  go_wp2_with fail
  go_ret
  exact ⟨by rw [← hb.out]; rfl, _, rfl⟩

/-- slices.IndexFunc over a closure that tests an int. -/
theorem indexAsk (p : Nat → Bool) (L : Nat → Nat) (n g c : Nat) (cap : Array Value) (w : World) (hn : n ≤ 9223372036854775807) (hc : ∀ i, i < n → w.cell? ⟨g, i, none⟩ = some (.int .i64 ((L i : Nat) : Int)))
    (hcall : ∀ i, i < n → ∀ m, Calls Tryd.prog 70 (#[.int .i64 ((L i : Nat) : Int)] ++ cap) (w.drewN m) fun e w' => e = .returned (.bool (p (L i))) ∧ ∃ m', w' = w.drewN m')
    (j : Nat) (hj : j ≤ n) (hno : ∀ i, i < j → p (L i) = false) (hyes : j < n → p (L j) = true) :
    Calls Tryd.prog 78 #[.slice (some ⟨g, 0, none⟩) n c, .func (.func 70) #[] cap] w fun e w' => e = .returned (.int .i64 (if j < n then (j : Int) else -1)) ∧ ∃ m, w' = w.drewN m := by
  have HC := hid hc
  have HK := hid hcall
  have HN := hid hno
  have HY := hid hyes
  clear hc hcall hno hyes
  go_enter Tryd.func78, Tryd.ntmps78
  go_wp2
  go_loopw [8] (fun i wr => ∃ k m : Nat, k ≤ j ∧ i = .int .i64 k ∧ wr = w.drewN m) (fun i _ => n - (intOf i).toNat)
  case atStart => exact ⟨0, 0, Nat.zero_le _, rfl, rfl⟩
  case round =>
    obtain ⟨k, m, hk, rfl, rfl⟩ := hrel
    by_cases hlt : k < n
    · have hlt' : (k : Int) < n := by omega
      have hcell := HC.out k hlt
      have hcl := hid (HK.out k hlt m)
      by_cases hkj : k < j
      · have hp := HN.out k hkj
        rw [hp] at hcl
        clear hp
        go_wp2_with (go_at_call 70; refine hcl.out.mono ?_; rintro e w' ⟨rfl, m', rfl⟩)
        go_roundw
        case rel => exact ⟨k + 1, m', by omega, by go_num, rfl⟩
        case measure => simp [intOf]; omega
      · obtain rfl : k = j := by omega
        have hp := HY.out hlt
        rw [hp] at hcl
        have hfin := hid (show (if k < n then (k : Int) else -1) = k from if_pos hlt)
        clear hp
        go_wp2_with (go_at_call 70; refine hcl.out.mono ?_; rintro e w' ⟨rfl, m', rfl⟩)
        go_ret
        first | exact ⟨rfl, _, rfl⟩ | exact ⟨by rw [hfin.out]; rfl, _, rfl⟩
    · have hge : ¬ (k : Int) < n := by omega
      have hfin := hid (show (if j < n then (j : Int) else -1) = -1 from if_neg (by omega))
      go_wp2
      go_ret
      first | exact ⟨rfl, _, rfl⟩ | exact ⟨by rw [hfin.out]; rfl, _, rfl⟩
theorem containsAsk (p : Nat → Bool) (L : Nat → Nat) (n g c : Nat) (cap : Array Value) (w : World) (hn : n ≤ 9223372036854775807) (hc : ∀ i, i < n → w.cell? ⟨g, i, none⟩ = some (.int .i64 ((L i : Nat) : Int)))
    (hcall : ∀ i, i < n → ∀ m, Calls Tryd.prog 70 (#[.int .i64 ((L i : Nat) : Int)] ++ cap) (w.drewN m) fun e w' => e = .returned (.bool (p (L i))) ∧ ∃ m', w' = w.drewN m')
    (b : Bool) (hb : b = true ↔ ∃ i, i < n ∧ p (L i) = true) :
    Calls Tryd.prog 62 #[.slice (some ⟨g, 0, none⟩) n c, .func (.func 70) #[] cap] w fun e w' => e = .returned (.bool b) ∧ ∃ m, w' = w.drewN m := by
  cases b with
  | true =>
    obtain ⟨j, ⟨hj, hp⟩, hl⟩ := exists_least (hb.1 rfl)
    have H := hid (indexAsk p L n g c cap w hn hc hcall j (by omega) (fun i hi => by
      cases h : p (L i)
      · rfl
      · exact absurd (hl i ⟨by omega, h⟩) (by omega)) (fun _ => hp))
    rw [if_pos hj] at H
    have hj0 : (0 : Int) ≤ j := by omega
    clear hc hcall hb hl hp
    go_enter Tryd.func62, Tryd.ntmps62
    go_wp2_with (go_at_call 78; refine H.out.mono ?_; rintro e w' ⟨rfl, m, rfl⟩)
    go_ret
    exact ⟨by simp, _, rfl⟩
  | false =>
    have hno : ∀ i, i < n → p (L i) = false := fun i hi => by
      cases h : p (L i)
      · rfl
      · exact absurd (hb.2 ⟨i, hi, h⟩) (by decide)
    have H := hid (indexAsk p L n g c cap w hn hc hcall n (Nat.le_refl _) hno (fun h => by omega))
    rw [if_neg (Nat.lt_irrefl n)] at H
    clear hc hcall hb hno
    go_enter Tryd.func62, Tryd.ntmps62
    go_wp2_with (go_at_call 78; refine H.out.mono ?_; rintro e w' ⟨rfl, m, rfl⟩)
    go_ret
    exact ⟨rfl, _, rfl⟩
end Go.Proofs.YtphnibllfpkkkaaDoor
