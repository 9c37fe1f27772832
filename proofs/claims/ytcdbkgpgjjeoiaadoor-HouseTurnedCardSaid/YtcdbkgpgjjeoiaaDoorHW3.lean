/- Walks of package house: places of the circle. -/
import Derived.Test.YtcdbkgpgjjeoiaaDoorH2
import Derived.Test.YtcdbkgpgjjeoiaaDoorV4
import Derived.Test.YtcdbkgpgjjeoiaaDoorW4
import Derived.Test.YtcdbkgpgjjeoiaaDoorQD
import Derived.Deep.QuietTactic
namespace Go.Proofs.YtcdbkgpgjjeoiaaDoor
open Go Go.RowKit
set_option maxRecDepth 100000

set_option maxHeartbeats 400000 in
theorem plus_up (s n : Nat) (hs : s < 12) (hn : n < 1000000) (w : World) : Calls Tryd.prog 59 #[.int .i64 ((s : Nat) : Int), .int .i64 ((n : Nat) : Int)] w fun e w' => e = .returned (.int .i64 (((s + n) % 12 : Nat) : Int)) ∧ w = w' := by
  obtain ⟨a, ha⟩ : ∃ a : Nat, s % 12 = a := ⟨_, rfl⟩
  obtain ⟨b, hb⟩ : ∃ b : Nat, n % 12 = b := ⟨_, rfl⟩
  obtain ⟨c, hc⟩ : ∃ c : Nat, (s + n) % 12 = c := ⟨_, rfl⟩
  have e1 : ((s : Nat) : Int) % 12 = ((a : Nat) : Int) := by omega
  have e2 : ((n : Nat) : Int) % 12 = ((b : Nat) : Int) := by omega
  have e3 : (((a : Nat) : Int) + ((b : Nat) : Int) + 24) % 12 = ((c : Nat) : Int) := by omega
  have l1 : a < 12 := by omega
  have l2 : b < 12 := by omega
  have l3 : c < 12 := by omega
  rw [hc]
  clear hc
  go_enter Tryd.func59, Tryd.ntmps59
  go_wp2
  go_ret
  refine ⟨?_, rfl⟩
  show Ending.returned (Value.int IntKind.i64 ((((a : Nat) : Int) + ((b : Nat) : Int) + 24) % 12)) = _
  rw [e3]
set_option maxHeartbeats 400000 in
theorem plus_down (s : Nat) (hs : s < 12) (w : World) : Calls Tryd.prog 59 #[.int .i64 ((s : Nat) : Int), .int .i64 (-1)] w fun e w' => e = .returned (.int .i64 (((s + 11) % 12 : Nat) : Int)) ∧ w = w' := by
  have h : s = 0 ∨ s = 1 ∨ s = 2 ∨ s = 3 ∨ s = 4 ∨ s = 5 ∨ s = 6 ∨ s = 7 ∨ s = 8 ∨ s = 9 ∨ s = 10 ∨ s = 11 := by omega
  rcases h with rfl | rfl | rfl | rfl | rfl | rfl | rfl | rfl | rfl | rfl | rfl | rfl
  all_goals
    go_enter Tryd.func59, Tryd.ntmps59
    go_wp2
    go_ret
    exact ⟨rfl, rfl⟩
theorem house_c (s : Nat) (hs : s < 1000000) (w : World) : Calls Tryd.prog 50 #[.int .i64 ((s : Nat) : Int)] w fun e w' => e = .returned (.int .i64 ((s + 1 : Nat) : Int)) ∧ w = w' := by
  obtain ⟨y, hy⟩ : ∃ y : Nat, s + 1 = y := ⟨_, rfl⟩
  have h1 : ((s : Nat) : Int) + 1 = ((y : Nat) : Int) := by omega
  have h2 := wrap_nat y (by omega)
  rw [hy]
  clear hy
  go_enter Tryd.func50, Tryd.ntmps50
  go_wp2
  go_ret
  exact ⟨rfl, rfl⟩
set_option maxHeartbeats 800000 in
theorem apart_c (x y : Nat) (hx : x < 12) (hy : y < 12) (w : World) : Calls Tryd.prog 60 #[.int .i64 ((x : Nat) : Int), .int .i64 ((y : Nat) : Int)] w fun e w' => e = .returned (.int .i64 ((apN x y : Nat) : Int)) ∧ w = w' := by
  have hap : ∀ x y : Fin 12, ((apN x.1 y.1 : Nat) : Int) = min (max ((x.1 : Int) - (y.1 : Int)) (-((x.1 : Int) - (y.1 : Int)))) (12 - max ((x.1 : Int) - (y.1 : Int)) (-((x.1 : Int) - (y.1 : Int)))) := by decide +kernel
  have e := hap ⟨x, hx⟩ ⟨y, hy⟩
  have E := hid e
  clear hap e
  go_enter Tryd.func60, Tryd.ntmps60
  go_wp2
  all_goals
    go_ret
    refine ⟨?_, rfl⟩
    rw [E.out]
    refine congrArg (fun z => Ending.returned (Value.int IntKind.i64 z)) ?_
    omega
theorem arnd (s : Nat) (hs : s < 12) : 2 ^ ((s + 1) % 12) ||| 2 ^ ((s + 11) % 12) = setN (fun i => nxt i s) 12 := by
  have : ∀ s : Fin 12, 2 ^ ((s.1 + 1) % 12) ||| 2 ^ ((s.1 + 11) % 12) = setN (fun i => nxt i s.1) 12 := by decide +kernel
  exact this ⟨s, hs⟩
end Go.Proofs.YtcdbkgpgjjeoiaaDoor
/- Walks of package house: Check, seats, around. -/
namespace Go.Proofs.YtcdbkgpgjjeoiaaDoor
open Go Go.RowKit
set_option maxRecDepth 100000

theorem hck1_yes (f : Int) (h0 : 0 ≤ f) (h1 : f ≤ 15) (w : World) : Calls Tryd.prog 65 #[.int .i64 f] w fun e w' => e = .returned (.bool false) ∧ w = w' := by
  have H := hid (fun W => check_yes f h0 h1 W)
  go_enter Tryd.func65, Tryd.ntmps65
  go_wp2_with (go_at_call 62; refine (H.out _).mono ?_; rintro e w' ⟨rfl, rfl⟩)
  go_ret
  exact ⟨rfl, rfl⟩
theorem hck1_no (f : Int) (h : ¬ Fig f) (w : World) : Calls Tryd.prog 65 #[.int .i64 f] w fun e w' => e = .returned (.bool true) ∧ w = w' := by
  have H := hid (fun W => check_no f h W)
  clear h
  go_enter Tryd.func65, Tryd.ntmps65
  go_wp2_with (go_at_call 62; refine (H.out _).mono ?_; rintro e w' ⟨rfl, rfl⟩)
  go_ret
  exact ⟨rfl, rfl⟩
theorem indexHou_yes (S : Nat → Int) (b off n c : Nat) (w : World) (hn : n ≤ 9223372036854775807) (hc : ∀ i, i < n → w.cell? ⟨b, off + i, none⟩ = some (.int .i64 (S i))) (hv : ∀ i, i < n → Fig (S i)) :
    Calls Tryd.prog 87 #[.slice (some ⟨b, off, none⟩) n c, .func (.func 65) #[] #[]] w fun e w' => e = .returned (.int .i64 (-1)) ∧ w = w' := by
  have HC := hid hc
  have HV := hid hv
  clear hc hv
  go_enter Tryd.func87, Tryd.ntmps87
  go_wp2
  go_loop [8] (fun i => ∃ k : Nat, k ≤ n ∧ i = .int .i64 k) (fun i => n - (intOf i).toNat)
  case atStart => exact ⟨0, Nat.zero_le _, rfl⟩
  case round =>
    obtain ⟨k, hk, rfl⟩ := hrel
    by_cases hlt : k < n
    · have hcell := HC.out k hlt
      have hf := HV.out k hlt
      unfold Fig at hf
      obtain ⟨hf0, hf1⟩ := hf
      go_wp2_with (go_at_call 65; refine (hck1_yes (S k) hf0 hf1 _).mono ?_; rintro e w' ⟨rfl, rfl⟩)
      go_round
      case rel => exact ⟨k + 1, by omega, by go_num⟩
      case measure => simp [intOf]; omega
    · go_wp2
      go_ret
      exact ⟨rfl, rfl⟩
theorem indexHou_no (S : Nat → Int) (j : Nat) (b off n c : Nat) (w : World) (hn : n ≤ 9223372036854775807) (hc : ∀ i, i < n → w.cell? ⟨b, off + i, none⟩ = some (.int .i64 (S i))) (hj : j < n) (hv : ∀ i, i < j → Fig (S i)) (hb : ¬ Fig (S j)) :
    Calls Tryd.prog 87 #[.slice (some ⟨b, off, none⟩) n c, .func (.func 65) #[] #[]] w fun e w' => e = .returned (.int .i64 j) ∧ w = w' := by
  have HC := hid hc
  have HV := hid hv
  have HB := hid hb
  clear hc hv hb
  go_enter Tryd.func87, Tryd.ntmps87
  go_wp2
  go_loop [8] (fun i => ∃ k : Nat, k ≤ j ∧ i = .int .i64 k) (fun i => n - (intOf i).toNat)
  case atStart => exact ⟨0, Nat.zero_le _, rfl⟩
  case round =>
    obtain ⟨k, hk, rfl⟩ := hrel
    have hcell := HC.out k (by omega)
    have hlt' : (k : Int) < n := by omega
    by_cases hlt : k < j
    · have hf := HV.out k hlt
      unfold Fig at hf
      obtain ⟨hf0, hf1⟩ := hf
      go_wp2_with (go_at_call 65; refine (hck1_yes (S k) hf0 hf1 _).mono ?_; rintro e w' ⟨rfl, rfl⟩)
      go_round
      case rel => exact ⟨k + 1, by omega, by go_num⟩
      case measure => simp [intOf]; omega
    · obtain rfl : k = j := by omega
      go_wp2_with (go_at_call 65; refine (hck1_no (S k) HB.out _).mono ?_; rintro e w' ⟨rfl, rfl⟩)
      go_ret
      exact ⟨rfl, rfl⟩
theorem containsHou_yes (S : Nat → Int) (b off n c : Nat) (w : World) (hn : n ≤ 9223372036854775807) (hc : ∀ i, i < n → w.cell? ⟨b, off + i, none⟩ = some (.int .i64 (S i))) (hv : ∀ i, i < n → Fig (S i)) :
    Calls Tryd.prog 64 #[.slice (some ⟨b, off, none⟩) n c, .func (.func 65) #[] #[]] w fun e w' => e = .returned (.bool false) ∧ w = w' := by
  have H := hid (indexHou_yes S b off n c w hn hc hv)
  clear hc hv
  go_enter Tryd.func64, Tryd.ntmps64
  go_wp2_with (go_at_call 87; refine H.out.mono ?_; rintro e w' ⟨rfl, rfl⟩)
  go_ret
  exact ⟨rfl, rfl⟩
theorem containsHou_no (S : Nat → Int) (b off n c : Nat) (w : World) (hn : n ≤ 9223372036854775807) (hc : ∀ i, i < n → w.cell? ⟨b, off + i, none⟩ = some (.int .i64 (S i))) (hv : ¬ ∀ i, i < n → Fig (S i)) :
    Calls Tryd.prog 64 #[.slice (some ⟨b, off, none⟩) n c, .func (.func 65) #[] #[]] w fun e w' => e = .returned (.bool true) ∧ w = w' := by
  have hex : ∃ j, j < n ∧ ¬ Fig (S j) := by
    apply Classical.byContradiction
    intro h
    exact hv fun i hi => Classical.byContradiction fun hb => h ⟨i, hi, hb⟩
  obtain ⟨j, ⟨hj, hb⟩, hl⟩ := exists_least hex
  have H := hid (indexHou_no S j b off n c w hn hc hj (fun i hi => Classical.byContradiction fun hb => absurd (hl i ⟨by omega, hb⟩) (by omega)) hb)
  clear hc hv hex hl hb
  have hj0 : (0 : Int) ≤ j := by omega
  go_enter Tryd.func64, Tryd.ntmps64
  go_wp2_with (go_at_call 87; refine H.out.mono ?_; rintro e w' ⟨rfl, rfl⟩)
  go_ret
  exact ⟨by simp, rfl⟩

theorem quietH {P : Program} {f : FuncId} {args : Array Value} {w : World} {n : Nat} {v : Value}
    (h : Calls P f args (w.drewN n) fun e w' => e = .returned v ∧ w.drewN n = w') : Calls P f args (w.drewN n) fun e w'' => e = .returned v ∧ ∃ m, w'' = w.drewN m :=
  h.mono fun _ _ ⟨he, hm⟩ => ⟨he, n, hm.symm⟩

set_option maxHeartbeats 400000 in
theorem hCheck_yes (S : Nat → Int) (hS : ∀ i, i < 12 → Fig (S i)) (w : World) : Calls Tryd.prog 40 #[.agg (irow 12 S)] w fun e w' => e = .returned (.int .i64 0) ∧ Below w.heap.size w w' := by
  have h0 := heap_alloc_new w (.cells (irow 12 S) 24)
  have hb0 : Below w.heap.size w (w.alloc (.cells (irow 12 S) 24)) := (Below.refl _ _).alloc (Nat.le_refl _) _
  have HC := hid (containsHou_yes S w.heap.size 0 12 12 _ (by omega) (fun i hi => by rw [Nat.zero_add]; exact cell_irow h0 i hi) hS)
  clear hS h0
  go_enter Tryd.func40, Tryd.ntmps40
  go_wp2_with (go_at_call 64; refine HC.out.mono ?_; rintro e w' ⟨rfl, rfl⟩)
  go_ret
  exact ⟨rfl, hb0⟩
set_option maxHeartbeats 400000 in
theorem hCheck_no (S : Nat → Int) (hS : ¬ ∀ i, i < 12 → Fig (S i)) (w : World) : Calls Tryd.prog 40 #[.agg (irow 12 S)] w fun e w' => e = .returned (.int .i64 2) ∧ Below w.heap.size w w' := by
  have h0 := heap_alloc_new w (.cells (irow 12 S) 24)
  have hb0 : Below w.heap.size w (w.alloc (.cells (irow 12 S) 24)) := (Below.refl _ _).alloc (Nat.le_refl _) _
  have HC := hid (containsHou_no S w.heap.size 0 12 12 _ (by omega) (fun i hi => by rw [Nat.zero_add]; exact cell_irow h0 i hi) hS)
  clear hS h0
  go_enter Tryd.func40, Tryd.ntmps40
  go_wp2_with (go_at_call 64; refine HC.out.mono ?_; rintro e w' ⟨rfl, rfl⟩)
  go_ret
  exact ⟨rfl, hb0⟩
end Go.Proofs.YtcdbkgpgjjeoiaaDoor
/- Walks of package house: around. -/
namespace Go.Proofs.YtcdbkgpgjjeoiaaDoor
open Go Go.RowKit
set_option maxRecDepth 100000

set_option maxHeartbeats 400000 in
theorem around_c (s : Nat) (hs : s < 12) (w : World) : Calls Tryd.prog 74 #[.int .i64 ((s : Nat) : Int)] w fun e w' => e = .returned (.int .u64 ((setN (fun i => nxt i s) 12 : Nat) : Int)) ∧ ∃ n, w' = w.drewN n := by
  have HU := hid (fun W => (plus_up s 1 hs (by omega) W : Calls Tryd.prog 59 #[.int .i64 ((s : Nat) : Int), .int .i64 1] W fun e w' => e = .returned (.int .i64 (((s + 1) % 12 : Nat) : Int)) ∧ W = w'))
  have HD := hid (fun W => plus_down s hs W)
  have ha := arnd s hs
  have b1 : 2 ^ ((s + 1) % 12) < 4096 := Nat.lt_of_lt_of_le (Nat.pow_lt_pow_right (a := 2) (by omega) (show (s + 1) % 12 < 12 by omega)) (by decide)
  have b2 : 2 ^ ((s + 11) % 12) < 4096 := Nat.lt_of_lt_of_le (Nat.pow_lt_pow_right (a := 2) (by omega) (show (s + 11) % 12 < 12 by omega)) (by decide)
  have l1 : (s + 1) % 12 < 12 := by omega
  have l2 : (s + 11) % 12 < 12 := by omega
  rw [← ha]
  obtain ⟨p, hp⟩ : ∃ p : Nat, (s + 1) % 12 = p := ⟨_, rfl⟩
  obtain ⟨q, hq⟩ : ∃ q : Nat, (s + 11) % 12 = q := ⟨_, rfl⟩
  rw [hp] at HU b1 l1 ⊢
  rw [hq] at HD b2 l2 ⊢
  have ho := u64_or (2 ^ p) (2 ^ q) (by omega) (by omega)
  have f1 : (2 : Int) ^ p = ((2 ^ p : Nat) : Int) := by push_cast; rfl
  have f2 : (2 : Int) ^ q = ((2 ^ q : Nat) : Int) := by push_cast; rfl
  have w1 := wrap_natU (2 ^ p) (by omega)
  have w2 := wrap_natU (2 ^ q) (by omega)
  clear ha hp hq
  generalize 2 ^ p = x at *
  generalize 2 ^ q = y at *
  generalize x ||| y = z at *
  have F1 := hid f1
  have F2 := hid f2
  clear f1 f2
  go_enter Tryd.func74, Tryd.ntmps74
  go_wp2_with fail
  refine wp_region_quiet_lit (by kernel_rfl) (by kernel_rfl) ?_
  refine qvalK (.int .i64 ((s : Nat) : Int)) rfl (fun W _ => by rfl) (fun K hK => ?_)
  go_simp
  refine hK _ ?_
  clear hK K
  refine qcallK (.int .i64 ((p : Nat) : Int)) 59 #[.int .i64 ((s : Nat) : Int), .int .i64 1] rfl (fun W => by kernel_rfl) (fun W ⟨n, hn⟩ => by subst hn; exact quietH (HU.out _)) (fun K hK => ?_)
  go_simp
  refine hK _ ?_
  clear hK K
  refine qvalK (.int .u64 ((x : Nat) : Int)) rfl (fun W _ => by go_simp; rw [F1.out]; exact w1) (fun K hK => ?_)
  go_simp
  refine hK _ ?_
  clear hK K
  refine qvalK (.int .i64 ((s : Nat) : Int)) rfl (fun W _ => by rfl) (fun K hK => ?_)
  go_simp
  refine hK _ ?_
  clear hK K
  refine qcallK (.int .i64 ((q : Nat) : Int)) 59 #[.int .i64 ((s : Nat) : Int), .int .i64 (-1)] rfl (fun W => by kernel_rfl) (fun W ⟨n, hn⟩ => by subst hn; exact quietH (HD.out _)) (fun K hK => ?_)
  go_simp
  refine hK _ ?_
  clear hK K
  refine qvalK (.int .u64 ((y : Nat) : Int)) rfl (fun W _ => by go_simp; rw [F2.out]; exact w2) (fun K hK => ?_)
  go_simp
  refine hK _ ?_
  clear hK K
  refine qvalK (.int .u64 ((z : Nat) : Int)) rfl (fun W _ => by go_simp <;> exact ho) (fun K hK => ?_)
  go_simp
  refine hK _ ?_
  clear hK K
  refine qvalK (.int .u64 ((z : Nat) : Int)) rfl (fun W _ => by rfl) (fun K hK => ?_)
  go_simp
  refine hK _ ?_
  clear hK K
  refine wpQuiet_nil ?_
  rintro _ ⟨n, rfl⟩
  go_wp2_with fail
  go_ret
  exact ⟨rfl, _, rfl⟩
end Go.Proofs.YtcdbkgpgjjeoiaaDoor
