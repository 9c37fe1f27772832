/- Walks of package house: Least; the best and the worst verdict with one mark changed. -/
import Derived.Test.YtcdbkgpgjjeoiaaDoorHG
import Derived.Test.YtcdbkgpgjjeoiaaDoorHT
import Derived.Test.YtcdbkgpgjjeoiaaDoorQD
namespace Go.Proofs.YtcdbkgpgjjeoiaaDoor
open Go Go.RowKit
set_option maxRecDepth 100000
set_option linter.unusedSimpArgs false
set_option linter.unusedVariables false

/-- One mark changed. -/
def flipN (h : Nat → Nat) (i k : Nat) : Nat → Nat := upN h i (h i ^^^ 2 ^ k)
def lowN (h : Nat → Nat) (a b : Nat) : Nat → Nat
  | 0 => judgeN h a b
  | n + 1 => min (lowN h a b n) (judgeN (flipN h (n / 4) (n % 4)) a b)
def highN (h : Nat → Nat) (a b : Nat) : Nat → Nat
  | 0 => judgeN h a b
  | n + 1 => max (highN h a b n) (judgeN (flipN h (n / 4) (n % 4)) a b)
theorem lowN_step (h : Nat → Nat) (a b i k : Nat) (hk : k < 4) : lowN h a b (4 * i + (k + 1)) = min (lowN h a b (4 * i + k)) (judgeN (flipN h i k) a b) := by
  show lowN h a b ((4 * i + k) + 1) = _
  rw [lowN, show (4 * i + k) / 4 = i by omega, show (4 * i + k) % 4 = k by omega]
theorem highN_step (h : Nat → Nat) (a b i k : Nat) (hk : k < 4) : highN h a b (4 * i + (k + 1)) = max (highN h a b (4 * i + k)) (judgeN (flipN h i k) a b) := by
  show highN h a b ((4 * i + k) + 1) = _
  rw [highN, show (4 * i + k) / 4 = i by omega, show (4 * i + k) % 4 = k by omega]
theorem least_range (h : Nat → Nat) (a b : Nat) : ∀ n, 1 ≤ lowN h a b n ∧ lowN h a b n ≤ judgeN h a b ∧ judgeN h a b ≤ highN h a b n ∧ highN h a b n ≤ 4
  | 0 => by have := judgeN_range h a b; unfold lowN highN; omega
  | n + 1 => by
    have h1 := least_range h a b n
    have h2 := judgeN_range (flipN h (n / 4) (n % 4)) a b
    unfold lowN highN
    omega
theorem flipN_lt (h : Nat → Nat) (hh : ∀ i, i < 12 → h i < 16) (i k : Nat) (hi : i < 12) (hk : k < 4) : ∀ j, j < 12 → flipN h i k j < 16 := fun j hj => by
  have hp : 2 ^ k < 2 ^ 4 := Nat.pow_lt_pow_right (by omega) hk
  unfold flipN upN
  split
  · exact Nat.xor_lt_two_pow (n := 4) (hh i hi) hp
  · exact hh j hj
theorem flip_row (h : Nat → Nat) (i k : Nat) : irow 12 (upd (cst h) i ((h i ^^^ 2 ^ k : Nat) : Int)) = irow 12 (cst (flipN h i k)) := by
  rw [upd_cst]; rfl
theorem flip_at (h : Nat → Nat) (i k : Nat) : flipN h i k i = h i ^^^ 2 ^ k := by unfold flipN upN; rw [if_pos rfl]
theorem flip_back (h : Nat → Nat) (i k : Nat) : irow 12 (upd (cst (flipN h i k)) i ((flipN h i k i ^^^ 2 ^ k : Nat) : Int)) = irow 12 (cst h) := by
  rw [upd_cst]
  refine irow_congr fun j _ => ?_
  unfold cst upN
  by_cases e : j = i
  · subst e
    rw [if_pos rfl, flip_at, Nat.xor_assoc, Nat.xor_self, Nat.xor_zero]
  · rw [if_neg e]
    unfold flipN upN
    rw [if_neg e]
theorem imin (a b : Nat) : min ((a : Nat) : Int) ((b : Nat) : Int) = ((min a b : Nat) : Int) := by omega
theorem imax (a b : Nat) : max ((a : Nat) : Int) ((b : Nat) : Int) = ((max a b : Nat) : Int) := by omega
set_option maxHeartbeats 800000 in
theorem Least_h_err (S : Nat → Int) (a b e : Int) (he : (e != 0) = true) (HP : ∀ W, Calls Tryd.prog 54 #[.agg (irow 12 S), .int .i64 a, .int .i64 b] W fun e' w' => e' = .returned (.tuple #[.agg sky0, .int .i64 0, .int .i64 0, .int .i64 e]) ∧ Below W.heap.size W w') (w : World) :
    Calls Tryd.prog 27 #[.agg (irow 12 S), .int .i64 a, .int .i64 b] w fun e' w' => e' = .returned (.tuple #[.int .i64 0, .int .i64 0, .int .i64 e]) ∧ Below w.heap.size w w' := by
  have HQ := hid HP
  have H0 := hid (heap_alloc_new w (.cells (irow 12 S) 24))
  have hb : Below w.heap.size w (w.alloc (.cells (irow 12 S) 24)) := (Below.refl _ _).alloc (Nat.le_refl _) _
  clear HP
  obtain ⟨g, hg⟩ : ∃ g, w.heap.size = g := ⟨_, rfl⟩
  go_enter Tryd.func27, Tryd.ntmps27
  go_wp2_with fail
  generalize w.alloc (.cells (irow 12 S) 24) = w1 at *
  rw [hg] at H0 hb
  have h0 := H0.out
  clear H0
  go_wp2_with (first
    | (refine ldrow arrHouses _ rfl rfl _ rfl _ _ h0 ?_)
    | (go_at_call 54; refine (HQ.out _).mono ?_; rintro e w2 ⟨rfl, hb2⟩; have hB2 := hb.trans (hb2.mono (Nat.le_of_lt (heap_lt h0))); clear h0 hb2)
    | (refine stcs _ _ rfl rfl _ _ sky0_size sky0_all rfl rfl _ (by rfl) _ (heap_alloc_new _ _) ?_))
  refine ret3 Tryd.results27 _ _ _ rfl rfl rfl rfl ?_
  refine ⟨rfl, ?_⟩
  rw [hg]
  have hs := hB2.size
  exact below_setRow (hB2.alloc (by omega) _) (by omega) _
set_option maxHeartbeats 4000000 in
theorem Least_h_ok (h : Nat → Nat) (hh : ∀ i, i < 12 → h i < 16) (x y : Nat) (hx : x < 12) (hy : y < 12) (hxy : x ≠ y) (a b : Int) (ha : a = ((x : Nat) : Int) + 1) (hb' : b = ((y : Nat) : Int) + 1) (w : World) (LB : LaidB w) :
    Calls Tryd.prog 27 #[.agg (irow 12 (cst h)), .int .i64 a, .int .i64 b] w fun e w' => e = .returned (.tuple #[.int .i64 ((lowN h x y 48 : Nat) : Int), .int .i64 ((highN h x y 48 : Nat) : Int), .int .i64 0]) ∧ Below w.heap.size w w' := by
  have HQ := hid (fun W => pair_c h hh x y hx hy hxy a b ha hb' W)
  have HM := hid (fun (h : Nat → Nat) (hh : ∀ i, i < 12 → h i < 16) (m : Nat) (W : World) (hW : Below w.heap.size w W) (hM : SkyM W m 12 (onF h 12)) => judge_c h hh m x y hx hy hxy W (LB.below hW) hM)
  have HLk := hid (fun (h : Nat → Nat) (hh : ∀ i, i < 12 → h i < 16) W => look_c h hh W)
  have HH := hid hh
  have HR := hid (least_range h x y)
  have H0 := hid (heap_alloc_new w (.cells (irow 12 (cst h)) 24))
  have hb : Below w.heap.size w (w.alloc (.cells (irow 12 (cst h)) 24)) := (Below.refl _ _).alloc (Nat.le_refl _) _
  have hj0 := judgeN_range h x y
  have HJ0 := hid (show lowN h x y (4 * 0 + 0) = judgeN h x y ∧ highN h x y (4 * 0 + 0) = judgeN h x y from ⟨rfl, rfl⟩)
  clear hh ha hb' hx hy hxy LB
  obtain ⟨g, hg⟩ : ∃ g, w.heap.size = g := ⟨_, rfl⟩
  go_enter Tryd.func27, Tryd.ntmps27
  go_wp2_with fail
  generalize w.alloc (.cells (irow 12 (cst h)) 24) = w1 at *
  rw [hg] at H0 hb HM
  go_wp2_with (first
    | (refine ldrow arrHouses _ rfl rfl _ rfl _ _ H0.out ?_)
    | (go_at_call 54; refine (HQ.out _).mono ?_; rintro e w2 ⟨m, rfl, hM2, hm2, hb2⟩; have hB2 := hb.trans (hb2.mono (Nat.le_of_lt (heap_lt H0.out))); have H2 := hid (heap_below hb2 H0.out (heap_lt H0.out)); clear hb2)
    | (refine stcs _ _ rfl rfl _ _ (show (sky h m).size = 13 from by simp [sky]) (sky_all h m) rfl rfl _ (by rfl) _ (heap_alloc_new _ _) ?_)
    | (refine ldsky _ rfl rfl _ rfl _ _ _ (setRow_heap _ _ _ _ _ _ (heap_alloc_new w2 _)) ?_)
    | (go_at_call 57; refine (HM.out h HH.out m _ (below_alloc_set hB2 (by omega)) (skym_alloc_set hM2)).mono ?_; rintro e w5 ⟨rfl, hb5⟩; have hB5 := (below_alloc_set (cs := _) (vs := sky h m) (t := 109) hB2 (by omega)).trans (hb5.mono (by have := hB2.size; simp; omega));
        have hg2 := heap_lt H2.out; have H5 := hid (heap_below hb5 ((setRow_other _ w2.heap.size g _ (by omega)).trans ((heap_alloc_old w2 _ hg2).trans H2.out)) (by simp; omega)); clear hb5))
  clear H0 hb hB2 H2 HQ hM2 hg2
  go_loopw [6, 7, 32] (fun p q i wr => ∃ k : Nat, k ≤ 12 ∧ i = .int .i64 k ∧ p = .int .i64 ((lowN h x y (4 * k + 0) : Nat) : Int) ∧ q = .int .i64 ((highN h x y (4 * k + 0) : Nat) : Int) ∧ wr.heap[g]? = some (.cells (irow 12 (cst h)) 24 (0, 0)) ∧ Below g w wr) (fun _ _ i _ => 12 - (intOf i).toNat)
  case atStart => exact ⟨0, by omega, rfl, by rw [HJ0.out.1], by rw [HJ0.out.2], H5.out, hB5⟩
  case round =>
    clear H5 hB5 HJ0
    obtain ⟨i, hi, rfl, rfl, rfl, hg0, hB⟩ := hrel
    have K0 := hid hg0
    clear hg0
    by_cases hlt : i < 12
    · have hlt' : ((i : Nat) : Int) < 12 := by omega
      have hp0 : (0 : Int) ≤ i := by omega
      have hsz := hB.size
      have HB0 := hid hB
      clear hB
      go_wp2_with fail
      go_loopw [6, 7, 35] (fun p q l wi => ∃ k : Nat, k ≤ 4 ∧ l = .int .i64 k ∧ p = .int .i64 ((lowN h x y (4 * i + k) : Nat) : Int) ∧ q = .int .i64 ((highN h x y (4 * i + k) : Nat) : Int) ∧ wi.heap[g]? = some (.cells (irow 12 (cst h)) 24 (0, 0)) ∧ Below g w wi) (fun _ _ l _ => 4 - (intOf l).toNat)
      case atStart => exact ⟨0, by omega, rfl, rfl, rfl, K0.out, HB0.out⟩
      case round =>
        clear K0 HB0 hsz
        obtain ⟨k, hk, rfl, rfl, rfl, hg0, hB⟩ := hrel
        have K0 := hid hg0
        have r1 := HR.out (4 * i + k)
        have hb1 : lowN h x y (4 * i + k) ≤ 4 := by omega
        have hb2 : highN h x y (4 * i + k) ≤ 4 := by omega
        clear hg0 r1
        by_cases hkt : k < 4
        · have hkt' : ((k : Nat) : Int) < 4 := by omega
          have hk0 : (0 : Int) ≤ k := by omega
          have HS1 := hid (lowN_step h x y i k hkt)
          have HS2 := hid (highN_step h x y i k hkt)
          have hjr := judgeN_range (flipN h i k) x y
          have HFl := hid (flipN_lt h HH.out i k hlt hkt)
          have hp16 : 2 ^ k < 2 ^ 4 := Nat.pow_lt_pow_right (by omega) hkt
          have hf16 := HH.out i hlt
          have hv16 := HFl.out i hlt
          obtain ⟨f, hf⟩ : ∃ f, h i = f := ⟨_, rfl⟩
          obtain ⟨p, hp⟩ : ∃ p, 2 ^ k = p := ⟨_, rfl⟩
          obtain ⟨v, hv⟩ : ∃ v, flipN h i k i = v := ⟨_, rfl⟩
          have hx1 : bits .xor .i64 ((f : Nat) : Int) ((p : Nat) : Int) = ((v : Nat) : Int) := by rw [i64_xor f p (by omega) (by omega), ← hv, flip_at, hf, hp]
          have hvf : v ^^^ p = f := by rw [← hv, flip_at, hf, hp, Nat.xor_assoc, Nat.xor_self, Nat.xor_zero]
          have hx2 : bits .xor .i64 ((v : Nat) : Int) ((p : Nat) : Int) = ((f : Nat) : Int) := by rw [i64_xor v p (by omega) (by omega), hvf]
          have hpw : (2 : Int) ^ k = ((p : Nat) : Int) := by rw [← hp]; push_cast; rfl
          have hwp := wrap_nat p (by omega)
          have c0 := cell_irow K0.out i hlt
          rw [cst_app, hf] at c0
          have fz := frozen_of_row _ _ i _ _ K0.out
          have HR1 := hid (flip_row h i k)
          have HR2 := hid (flip_back h i k)
          have HV := hid hv
          rw [hf, hp] at HR1
          rw [hv, hp, hvf] at HR2
          have hxv : f ^^^ p = v := by rw [← hv, flip_at, hf, hp]
          rw [hxv] at HR1
          have HIm := hid (imin (lowN h x y (4 * i + k)) (judgeN (flipN h i k) x y))
          have HIx := hid (imax (highN h x y (4 * i + k)) (judgeN (flipN h i k) x y))
          clear hf hp hv hvf hxv
          generalize lowN h x y (4 * i + k) = lo at *
          generalize highN h x y (4 * i + k) = hi' at *
          go_wp2_with fail
          have hS4 : wr.drew.cell? ⟨g, i, none⟩ = some (.int .i64 ((f : Nat) : Int)) ∧ wr.drew.frozen? ⟨g, i, none⟩ = false := ⟨c0, fz⟩
          refine regD (fun W => W.cell? ⟨g, i, none⟩ = some (.int .i64 ((f : Nat) : Int)) ∧ W.frozen? ⟨g, i, none⟩ = false) (fun j => j != 7) (by kernel_rfl) ?_
          refine takeE (i := 0) (.int .i64 ((i : Nat) : Int)) (d := some 38) rfl (by kernel_rfl) (by kernel_rfl) (by kernel_rfl) (by kernel_rfl) (fun _ _ _ h => h) rfl (fun W hSw => by rfl) (hS4) rfl ?_
          simp only [Act.put, List.setIfInBounds_toArray, List.set_cons_zero, List.set_cons_succ]
          refine takeE (i := 1) (.pointer (some ⟨g, i, none⟩)) (d := some 39) rfl (by kernel_rfl) (by kernel_rfl) (by kernel_rfl) (by kernel_rfl) (fun _ _ _ h => h) rfl (fun W hSw => by go_simp) (hS4) rfl ?_
          simp only [Act.put, List.setIfInBounds_toArray, List.set_cons_zero, List.set_cons_succ]
          refine takeE (i := 2) (.int .i64 ((f : Nat) : Int)) (d := some 40) rfl (by kernel_rfl) (by kernel_rfl) (by kernel_rfl) (by kernel_rfl) (fun _ _ _ h => h) rfl (fun W hSw => by have hc := hSw.1; go_simp) (hS4) rfl ?_
          simp only [Act.put, List.setIfInBounds_toArray, List.set_cons_zero, List.set_cons_succ]
          refine takeE (i := 3) (.int .i64 ((k : Nat) : Int)) (d := some 41) rfl (by kernel_rfl) (by kernel_rfl) (by kernel_rfl) (by kernel_rfl) (fun _ _ _ h => h) rfl (fun W hSw => by rfl) (hS4) rfl ?_
          simp only [Act.put, List.setIfInBounds_toArray, List.set_cons_zero, List.set_cons_succ]
          refine takeE (i := 4) (.int .i64 ((p : Nat) : Int)) (d := some 42) rfl (by kernel_rfl) (by kernel_rfl) (by kernel_rfl) (by kernel_rfl) (fun _ _ _ h => h) rfl (fun W hSw => by go_simp) (hS4) rfl ?_
          simp only [Act.put, List.setIfInBounds_toArray, List.set_cons_zero, List.set_cons_succ]
          refine takeE (i := 5) (.int .i64 ((v : Nat) : Int)) (d := some 43) rfl (by kernel_rfl) (by kernel_rfl) (by kernel_rfl) (by kernel_rfl) (fun _ _ _ h => h) rfl (fun W hSw => by go_simp) (hS4) rfl ?_
          simp only [Act.put, List.setIfInBounds_toArray, List.set_cons_zero, List.set_cons_succ]
          refine takeE (i := 6) (.pointer (some ⟨g, i, none⟩)) (d := some 44) rfl (by kernel_rfl) (by kernel_rfl) (by kernel_rfl) (by kernel_rfl) (fun _ _ _ h => h) rfl (fun W hSw => by go_simp) (hS4) rfl ?_
          simp only [Act.put, List.setIfInBounds_toArray, List.set_cons_zero, List.set_cons_succ]
          refine stepD 7 (by kernel_rfl) rfl rfl (fun K hK => ?_)
          go_simp
          refine hK _ _ (notD (by kernel_rfl)) ?_
          clear hK K
          refine doneD (by kernel_rfl) ?_ _
          refine OnlyNorm.normal ?_
          have q0 := set_irow K0.out i ((v : Nat) : Int)
          rw [HR1.out] at q0
          have Q0 := hid (show (wr.setCell ⟨g, i, none⟩ (.int .i64 ((v : Nat) : Int))).drew.heap[g]? = some (.cells (irow 12 (cst (flipN h i k))) 24 (0, 0)) from q0)
          have hB1 : Below g w (wr.setCell ⟨g, i, none⟩ (.int .i64 ((v : Nat) : Int))).drew := below_drew (hB.setCell (p := ⟨g, i, none⟩) (Nat.le_refl g) (.int .i64 ((v : Nat) : Int)))
          clear q0 hB K0 c0 fz
          generalize (wr.setCell ⟨g, i, none⟩ (.int .i64 ((v : Nat) : Int))).drew = w6 at *
          go_wp2_with (first
            | (refine ldrow arrHouses _ rfl rfl _ rfl _ _ Q0.out ?_)
            | (go_at_call 47; refine (HLk.out _ HFl.out _).mono ?_; rintro e w7 ⟨m7, rfl, hM7, hm7, hb7⟩; have hsz := hB1.size; have hB7 := hB1.trans (hb7.mono (by omega)); have Q7 := hid (heap_below hb7 Q0.out (heap_lt Q0.out)))
            | (go_at_call 57; refine (HM.out (flipN h i k) HFl.out m7 _ hB7 hM7).mono ?_; rintro e w8 ⟨rfl, hb8⟩; have hsz := hB7.size; have hB8 := hB7.trans (hb8.mono (by omega)); have Q8 := hid (heap_below hb8 Q7.out (heap_lt Q7.out)); clear Q0 Q7 hB1 hB7 hM7 hb7 hb8))
          have c0 := cell_irow Q8.out i hlt
          rw [cst_app, HV.out] at c0
          have fz := frozen_of_row _ _ i _ _ Q8.out
          have hS4 : w8.drew.cell? ⟨g, i, none⟩ = some (.int .i64 ((v : Nat) : Int)) ∧ w8.drew.frozen? ⟨g, i, none⟩ = false := ⟨c0, fz⟩
          refine regD (fun W => W.cell? ⟨g, i, none⟩ = some (.int .i64 ((v : Nat) : Int)) ∧ W.frozen? ⟨g, i, none⟩ = false) (fun j => j != 7) (by kernel_rfl) ?_
          refine takeE (i := 0) (.int .i64 ((i : Nat) : Int)) (d := some 56) rfl (by kernel_rfl) (by kernel_rfl) (by kernel_rfl) (by kernel_rfl) (fun _ _ _ h => h) rfl (fun W hSw => by rfl) (hS4) rfl ?_
          simp only [Act.put, List.setIfInBounds_toArray, List.set_cons_zero, List.set_cons_succ]
          refine takeE (i := 1) (.pointer (some ⟨g, i, none⟩)) (d := some 57) rfl (by kernel_rfl) (by kernel_rfl) (by kernel_rfl) (by kernel_rfl) (fun _ _ _ h => h) rfl (fun W hSw => by go_simp) (hS4) rfl ?_
          simp only [Act.put, List.setIfInBounds_toArray, List.set_cons_zero, List.set_cons_succ]
          refine takeE (i := 2) (.int .i64 ((v : Nat) : Int)) (d := some 58) rfl (by kernel_rfl) (by kernel_rfl) (by kernel_rfl) (by kernel_rfl) (fun _ _ _ h => h) rfl (fun W hSw => by have hc := hSw.1; go_simp) (hS4) rfl ?_
          simp only [Act.put, List.setIfInBounds_toArray, List.set_cons_zero, List.set_cons_succ]
          refine takeE (i := 3) (.int .i64 ((k : Nat) : Int)) (d := some 59) rfl (by kernel_rfl) (by kernel_rfl) (by kernel_rfl) (by kernel_rfl) (fun _ _ _ h => h) rfl (fun W hSw => by rfl) (hS4) rfl ?_
          simp only [Act.put, List.setIfInBounds_toArray, List.set_cons_zero, List.set_cons_succ]
          refine takeE (i := 4) (.int .i64 ((p : Nat) : Int)) (d := some 60) rfl (by kernel_rfl) (by kernel_rfl) (by kernel_rfl) (by kernel_rfl) (fun _ _ _ h => h) rfl (fun W hSw => by go_simp) (hS4) rfl ?_
          simp only [Act.put, List.setIfInBounds_toArray, List.set_cons_zero, List.set_cons_succ]
          refine takeE (i := 5) (.int .i64 ((f : Nat) : Int)) (d := some 61) rfl (by kernel_rfl) (by kernel_rfl) (by kernel_rfl) (by kernel_rfl) (fun _ _ _ h => h) rfl (fun W hSw => by go_simp) (hS4) rfl ?_
          simp only [Act.put, List.setIfInBounds_toArray, List.set_cons_zero, List.set_cons_succ]
          refine takeE (i := 6) (.pointer (some ⟨g, i, none⟩)) (d := some 62) rfl (by kernel_rfl) (by kernel_rfl) (by kernel_rfl) (by kernel_rfl) (fun _ _ _ h => h) rfl (fun W hSw => by go_simp) (hS4) rfl ?_
          simp only [Act.put, List.setIfInBounds_toArray, List.set_cons_zero, List.set_cons_succ]
          refine stepD 7 (by kernel_rfl) rfl rfl (fun K hK => ?_)
          go_simp
          refine hK _ _ (notD (by kernel_rfl)) ?_
          clear hK K
          refine doneD (by kernel_rfl) ?_ _
          refine OnlyNorm.normal ?_
          have q0 := set_irow Q8.out i ((f : Nat) : Int)
          rw [HR2.out] at q0
          have Q0 := hid (show (w8.setCell ⟨g, i, none⟩ (.int .i64 ((f : Nat) : Int))).drew.heap[g]? = some (.cells (irow 12 (cst h)) 24 (0, 0)) from q0)
          have hB1 : Below g w (w8.setCell ⟨g, i, none⟩ (.int .i64 ((f : Nat) : Int))).drew := below_drew (hB8.setCell (p := ⟨g, i, none⟩) (Nat.le_refl g) (.int .i64 ((f : Nat) : Int)))
          clear q0 hB8 Q8 c0 fz
          generalize (w8.setCell ⟨g, i, none⟩ (.int .i64 ((f : Nat) : Int))).drew = w9 at *
          go_wp2_with fail
          go_roundw
          case rel => exact ⟨k + 1, by omega, by go_num, by rw [HS1.out, ← HIm.out], by rw [HS2.out, ← HIx.out], Q0.out, hB1⟩
          case measure => simp [intOf]; omega
        · have hge : ¬ ((k : Nat) : Int) < 4 := by omega
          obtain rfl : k = 4 := by omega
          have e4 : 4 * i + 4 = 4 * (i + 1) + 0 := by omega
          rw [e4] at hb1 hb2 ⊢
          generalize hlo : lowN h x y (4 * (i + 1) + 0) = lo at *
          generalize hhi : highN h x y (4 * (i + 1) + 0) = hi' at *
          have HLO := hid hlo
          have HHI := hid hhi
          clear hlo hhi e4
          go_wp2_with fail
          go_roundw
          case rel => exact ⟨i + 1, by omega, by go_num, by rw [HLO.out], by rw [HHI.out], K0.out, hB⟩
          case measure => simp [intOf]; omega
    · have hge : ¬ ((i : Nat) : Int) < 12 := by omega
      obtain rfl : i = 12 := by omega
      obtain ⟨lo, hlo⟩ : ∃ z, lowN h x y (4 * 12 + 0) = z := ⟨_, rfl⟩
      obtain ⟨hi', hhi⟩ : ∃ z, highN h x y (4 * 12 + 0) = z := ⟨_, rfl⟩
      rw [hlo, hhi]
      have HLO := hid hlo
      have HHI := hid hhi
      clear hlo hhi
      go_wp2_with fail
      refine ret3 Tryd.results27 _ _ _ rfl rfl rfl rfl ?_
      exact ⟨by have h1 := HLO.out; have h2 := HHI.out; simp only [Nat.reduceMul, Nat.add_zero] at h1 h2; rw [h1, h2]; rfl, hg ▸ hB⟩
end Go.Proofs.YtcdbkgpgjjeoiaaDoor
