/- Walks of package house: the marks of all houses and the house that they lead to. -/
import Derived.Test.YtcdbkgpgjjeoiaaDoorHW3
import Derived.Test.YtcdbkgpgjjeoiaaDoorHW6
import Derived.Test.YtcdbkgpgjjeoiaaDoorH7
import Derived.Test.YtcdbkgpgjjeoiaaDoorHP
import Derived.Test.YtcdbkgpgjjeoiaaDoorSm
import Derived.Deep.RegionHeld3
import Derived.BigRegion
namespace Go.Proofs.YtcdbkgpgjjeoiaaDoor
open Go Go.RowKit
set_option maxRecDepth 100000

/-- Three results. -/
theorem ret3 {P : Program} {fn : Func} {p q r : Tmp} (h : fn.results = #[.tmp p, .tmp q, .tmp r]) {a : Act} {w : World} {R : Ending → World → Prop} (v1 v2 v3 : Value)
    (h1 : a.tmps.getD p undef = v1) (h2 : a.tmps.getD q undef = v2) (h3 : a.tmps.getD r undef = v3) (hd : a.defers = []) (hR : R (.returned (.tuple #[v1, v2, v3])) w) : bodyPost P fn R .ret a w := by
  refine bodyPost_ret (v := .tuple #[v1, v2, v3]) ?_ hd hR
  have h1' : a.tmps[p]?.getD undef = v1 := by simpa using h1
  have h2' : a.tmps[q]?.getD undef = v2 := by simpa using h2
  have h3' : a.tmps[r]?.getD undef = v3 := by simpa using h3
  simp [results, h, h1', h2', h3']
set_option maxHeartbeats 1000000 in
theorem ones64 (x : Nat) (hx : x < 16) (w : World) : Calls Tryd.prog 83 #[.int .u64 ((x : Nat) : Int)] w fun e w' => e = .returned (.int .i64 ((pc x : Nat) : Int)) ∧ w = w' := by
  have h : x = 0 ∨ x = 1 ∨ x = 2 ∨ x = 3 ∨ x = 4 ∨ x = 5 ∨ x = 6 ∨ x = 7 ∨ x = 8 ∨ x = 9 ∨ x = 10 ∨ x = 11 ∨ x = 12 ∨ x = 13 ∨ x = 14 ∨ x = 15 := by omega
  rcases h with rfl | rfl | rfl | rfl | rfl | rfl | rfl | rfl | rfl | rfl | rfl | rfl | rfl | rfl | rfl | rfl
  all_goals
    go_enter Tryd.func83, Tryd.ntmps83
    go_wp2_with fail
    go_ret
    exact ⟨by kernel_rfl, rfl⟩
theorem ones (x : Nat) (hx : x < 16) (w : World) : Calls Tryd.prog 58 #[.int .u64 ((x : Nat) : Int)] w fun e w' => e = .returned (.int .i64 ((pc x : Nat) : Int)) ∧ w = w' := by
  have H := hid (ones64 x hx w)
  have hw := wrap_natU x (by omega)
  go_enter Tryd.func58, Tryd.ntmps58
  go_wp2_with (go_at_call 83; refine H.out.mono ?_; rintro e w' ⟨rfl, rfl⟩)
  go_ret
  exact ⟨rfl, rfl⟩
set_option maxHeartbeats 400000 in
theorem fort_arg (S : Nat → Int) (hS : ¬ ∀ i, i < 12 → Fig (S i)) (w : World) : Calls Tryd.prog 25 #[.agg (irow 12 S)] w fun e w' => e = .returned (.tuple #[.int .i64 0, .int .i64 0, .int .i64 2]) ∧ Below w.heap.size w w' := by
  have HC := hid (fun W => hCheck_no S hS W)
  have h0 := heap_alloc_new w (.cells (irow 12 S) 24)
  have hb : Below w.heap.size w (w.alloc (.cells (irow 12 S) 24)) := (Below.refl _ _).alloc (Nat.le_refl _) _
  clear hS
  go_enter Tryd.func25, Tryd.ntmps25
  go_wp2_with fail
  generalize w.alloc (.cells (irow 12 S) 24) = w1 at *
  go_wp2_with (first
    | (refine ldrow arrHouses _ rfl rfl _ rfl _ _ h0 ?_)
    | (go_at_call 40; refine (HC.out _).mono ?_; rintro e w2 ⟨rfl, hb2⟩))
  refine ret3 Tryd.results25 _ _ _ rfl rfl rfl rfl ?_
  exact ⟨rfl, hb.trans (hb2.mono hb.size)⟩
set_option maxHeartbeats 1000000 in
theorem fort_c (h : Nat → Nat) (hh : ∀ i, i < 12 → h i < 16) (w : World) : Calls Tryd.prog 25 #[.agg (irow 12 (cst h))] w fun e w' => e = .returned (.tuple #[.int .i64 ((mks h 12 : Nat) : Int), .int .i64 ((fort (mks h 12) : Nat) : Int), .int .i64 0]) ∧ Below w.heap.size w w' := by
  have HC := hid (fun W => hCheck_yes (cst h) (fun i hi => ⟨by simp, by have := hh i hi; simp; omega⟩) W)
  have h0 := heap_alloc_new w (.cells (irow 12 (cst h)) 24)
  have hb : Below w.heap.size w (w.alloc (.cells (irow 12 (cst h)) 24)) := (Below.refl _ _).alloc (Nat.le_refl _) _
  have hlt0 := heap_lt h0
  have HH := hid hh
  clear hh
  go_enter Tryd.func25, Tryd.ntmps25
  go_wp2_with fail
  generalize w.alloc (.cells (irow 12 (cst h)) 24) = w1 at *
  generalize hg : w.heap.size = g at *
  go_wp2_with (first
    | (refine ldrow arrHouses _ rfl rfl _ rfl _ _ h0 ?_)
    | (go_at_call 40; refine (HC.out _).mono ?_; rintro e w2 ⟨rfl, hb2⟩; have h0 := heap_below hb2 h0 hlt0))
  have hB2 := hb.trans (hb2.mono (Nat.le_of_lt hlt0))
  clear hb hb2
  simp only [lit12]
  go_loopw [2, 14] (fun a i wr => ∃ k : Nat, k ≤ 12 ∧ i = .int .i64 k ∧ a = .int .i64 ((mks h k : Nat) : Int) ∧ Below g w wr) (fun _ i _ => 12 - (intOf i).toNat)
  case atStart => exact ⟨0, by omega, rfl, rfl, hB2⟩
  case round =>
    obtain ⟨k, hk, rfl, rfl, hB⟩ := hrel
    by_cases hlt : k < 12
    · have hlt' : ((k : Nat) : Int) < 12 := by omega
      have hidx := idxHouses (cst h) k hlt
      rw [cst_app] at hidx
      have hf := HH.out k hlt
      have hm := mks_bd h HH.out k hk
      have hmp := mk_pc (h k) hf
      obtain ⟨m2, hm2⟩ : ∃ z : Nat, mks h (k + 1) = z := ⟨_, rfl⟩
      have hM2 := hid hm2
      have hst : m2 = mks h k + (8 - pc (h k)) := by rw [← hm2, ← hmp.1]; rfl
      obtain ⟨q, hq⟩ : ∃ z : Nat, pc (h k) = z := ⟨_, rfl⟩
      have HO := hid (ones (h k) hf)
      rw [hq] at HO
      have hwf := wrap_natU (h k) (by omega)
      have hq4 : q ≤ 4 := by rw [← hq]; exact hmp.2.1
      have hm1 : mks h k ≤ 96 := by omega
      rw [hq] at hst
      clear hm2 hmp hf hm hq
      generalize h k = f at *
      generalize mks h k = m at *
      have e1 : IntKind.i64.wrap (8 - ((q : Nat) : Int)) = ((8 - q : Nat) : Int) := by rw [show (8 : Int) - ((q : Nat) : Int) = ((8 - q : Nat) : Int) by omega]; exact wrap_nat _ (by omega)
      have e2 : IntKind.i64.wrap (((m : Nat) : Int) + ((8 - q : Nat) : Int)) = ((m2 : Nat) : Int) := by rw [show ((m : Nat) : Int) + ((8 - q : Nat) : Int) = ((m2 : Nat) : Int) by omega]; exact wrap_nat _ (by omega)
      have e3 : (8 : Int) - ((q : Nat) : Int) = ((8 - q : Nat) : Int) := by omega
      have e4 : ((m : Nat) : Int) + ((8 - q : Nat) : Int) = ((m2 : Nat) : Int) := by omega
      have hw2 := wrap_nat m2 (by omega)
      generalize 8 - q = q8 at *
      clear hst e2
      go_wp2_with (go_at_call 58; refine (HO.out _).mono ?_; rintro e w' ⟨rfl, rfl⟩)
      go_roundw
      case rel => exact ⟨k + 1, by omega, by go_num, by rw [hM2.out], hB⟩
      case measure => simp [intOf]; omega
    · have hge : ¬ ((k : Nat) : Int) < 12 := by omega
      obtain rfl : k = 12 := by omega
      have hm := mks_bd h HH.out 12 (by omega)
      obtain ⟨n, hn⟩ : ∃ n : Nat, mks h 12 = n + 1 := ⟨mks h 12 - 1, by omega⟩
      have hn2 : n + 1 ≤ 96 := by omega
      have hf1 : fort (mks h 12) = (0 + n) % 12 + 1 := by rw [hn]; unfold fort; simp
      have HP := hid (plus_up 0 n (by omega) (by omega))
      have HX := hid (house_c ((0 + n) % 12) (by omega))
      obtain ⟨m, hmm⟩ : ∃ m : Nat, n + 1 = m := ⟨_, rfl⟩
      have e1 : ((m : Nat) : Int) - 1 = ((n : Nat) : Int) := by omega
      have hwn := wrap_nat n (by omega)
      have HF1 := hid hf1
      have HN1 := hid hn
      have HMM := hid hmm
      have hmn : mks h 12 = m := by omega
      rw [hmn]
      clear hf1 hm hn hmm hmn
      generalize hr : (0 + n) % 12 = r at *
      have HR := hid hr
      clear hr
      go_wp2_with (first
        | (go_at_call 59; refine (HP.out _).mono ?_; rintro e w' ⟨rfl, rfl⟩)
        | (go_at_call 50; refine (HX.out _).mono ?_; rintro e w' ⟨rfl, rfl⟩))
      refine ret3 Tryd.results25 _ _ _ rfl rfl rfl rfl ?_
      refine ⟨?_, ?_⟩
      · have h1 := HF1.out
        have h2 := HN1.out
        have h3 := HMM.out
        rw [h1, h2, h3]
        rfl
      rw [hg]
      exact hB
end Go.Proofs.YtcdbkgpgjjeoiaaDoor
/- The table of rulers; Ruler, Ruled, Partner, Apart of package house. -/
namespace Go.Proofs.YtcdbkgpgjjeoiaaDoor
open Go Go.RowKit
set_option maxRecDepth 100000

/-- The table of rulers as it lies. -/
structure LaidR (w : World) : Prop where
  size : 0 < w.heap.size
  cell : ∀ f, f < 16 → w.cell? ⟨0, f, none⟩ = some (.int .i64 ((rulN f : Nat) : Int))
theorem LaidR.below {w w' : World} (h : LaidR w) (hb : Below w.heap.size w w') : LaidR w' :=
  ⟨Nat.lt_of_lt_of_le h.size hb.size, fun i hi => (hb.cell (p := ⟨0, i, none⟩) h.size).trans (h.cell i hi)⟩
theorem ruler_no (f : Int) (h : ¬ Fig f) (w : World) : Calls Tryd.prog 34 #[.int .i64 f] w fun e w' => e = .returned (.tuple #[.int .i64 0, .int .i64 2]) ∧ Below w.heap.size w w' := by
  have H := hid (check_no f h)
  clear h
  go_enter Tryd.func34, Tryd.ntmps34
  go_wp2_with (go_at_call 62; refine (H.out _).mono ?_; rintro e w' ⟨rfl, rfl⟩)
  go_ret2
  exact ⟨rfl, Below.refl _ _⟩
theorem ruler_c (f : Nat) (hf : f < 16) (w : World) (LR : LaidR w) : Calls Tryd.prog 34 #[.int .i64 ((f : Nat) : Int)] w fun e w' => e = .returned (.tuple #[.int .i64 ((rulN f : Nat) : Int), .int .i64 0]) ∧ Below w.heap.size w w' := by
  have H := hid (check_yes ((f : Nat) : Int) (by omega) (by omega))
  have hc := LR.cell f hf
  have hlt' : ((f : Nat) : Int) < 16 := by omega
  have hp0 : (0 : Int) ≤ f := by omega
  clear LR
  go_enter Tryd.func34, Tryd.ntmps34
  go_wp2_with (go_at_call 62; refine (H.out _).mono ?_; rintro e w' ⟨rfl, rfl⟩)
  go_ret2
  exact ⟨rfl, Below.refl _ _⟩
theorem apart_no (a b : Int) (h : ¬ (Hou a ∧ Hou b)) (w : World) : Calls Tryd.prog 26 #[.int .i64 a, .int .i64 b] w fun e w' => e = .returned (.tuple #[.int .i64 0, .int .i64 3]) ∧ Below w.heap.size w w' := by
  have HN := hid (fun W => seats2_no a b h W)
  clear h
  go_enter Tryd.func26, Tryd.ntmps26
  go_wp2_with (go_at_call 46; refine (HN.out _).mono ?_; rintro e w' ⟨rfl, hb⟩)
  go_ret2
  exact ⟨rfl, hb⟩
set_option maxHeartbeats 400000 in
theorem apart_yes (x y : Nat) (hx : x < 12) (hy : y < 12) (a b : Int) (ha : a = ((x : Nat) : Int) + 1) (hb : b = ((y : Nat) : Int) + 1) (w : World) :
    Calls Tryd.prog 26 #[.int .i64 a, .int .i64 b] w fun e w' => e = .returned (.tuple #[.int .i64 ((apN x y : Nat) : Int), .int .i64 0]) ∧ Below w.heap.size w w' := by
  have HN := hid (fun W => seats2_yes x y hx hy a b ha hb W)
  have HP := hid (fun W => apart_c x y hx hy W)
  obtain ⟨d, hd⟩ : ∃ d, apN x y = d := ⟨_, rfl⟩
  rw [hd] at HP ⊢
  clear ha hb hd
  go_enter Tryd.func26, Tryd.ntmps26
  go_wp2_with (go_at_call 46; refine (HN.out _).mono ?_; rintro e w3 ⟨gs, cs, rfl, hc0, hc1, hgB, hgs, hb3⟩)
  go_quiet ((go_at_call 60; exact quietH (HP.out _)))
  go_wp2_with fail
  go_ret2
  exact ⟨rfl, below_drewN hb3 _⟩
end Go.Proofs.YtcdbkgpgjjeoiaaDoor
