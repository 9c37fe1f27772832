/- The two ways of counting agree; Count as a contract. -/
import Derived.Test.YtphnibllfpkkkaaDoorR10
namespace Go.Proofs.YtphnibllfpkkkaaDoor
open Go Go.RowKit
set_option maxRecDepth 100000

theorem cntL_range (S : Nat → Nat) : ∀ n, cntL S (List.range n) = sumN (fun i => if okB S (gr i) then 1 else 0) n
  | 0 => by simp [cntL, sumN]
  | n + 1 => by rw [range_snoc, cntL_snoc, cntL_range S n]; rfl
theorem cntL_cntN (S : Nat → Nat) : cntL S gAll = cntN S 65536 := by
  have h1 : cntL S gAll = sumN (fun i => if okB S (gr i) then 1 else 0) 65536 := cntL_range S 65536
  rw [h1, sumN_gr (fun n => if okB S n then 1 else 0)]
  rfl
theorem cntN_succ (S : Nat → Nat) (n : Nat) : cntN S (n + 1) = cntN S n + if okB S n then 1 else 0 := rfl
theorem cntN_zero (S : Nat → Nat) : ∀ n, cntN S n = 0 ↔ ∀ k, k < n → okB S k = false
  | 0 => ⟨fun _ k hk => by omega, fun _ => rfl⟩
  | n + 1 => by
    rw [cntN_succ]
    constructor
    · intro h k hk
      have h0 : cntN S n = 0 := by omega
      by_cases e : k = n
      · subst e
        cases ho : okB S k
        · rfl
        · rw [ho] at h; simp at h
      · exact (cntN_zero S n).1 h0 k (by omega)
    · intro h
      rw [(cntN_zero S n).2 (fun k hk => h k (by omega)), h n (by omega)]; rfl
theorem fstN_spec (S : Nat → Nat) : ∀ n, (cntN S n = 0 → fstN S n = fun _ => 0) ∧ (∀ m, m < n → okB S m = true → (∀ k, k < m → okB S k = false) → fstN S n = cst (mths m))
  | 0 => ⟨fun _ => rfl, fun m hm => by omega⟩
  | n + 1 => by
    obtain ⟨h1, h2⟩ := fstN_spec S n
    have e : fstN S (n + 1) = if okB S n = true ∧ cntN S n = 0 then cst (mths n) else fstN S n := rfl
    rw [e]
    refine ⟨fun h => ?_, fun m hm ho hl => ?_⟩
    · have h0 := (cntN_zero S (n + 1)).1 h
      rw [if_neg (fun hh => by rw [h0 n (by omega)] at hh; exact absurd hh.1 (by decide))]
      exact h1 ((cntN_zero S n).2 fun k hk => h0 k (by omega))
    · by_cases em : m = n
      · subst em
        rw [if_pos ⟨ho, (cntN_zero S m).2 hl⟩]
      · rw [if_neg (fun hh => by
          have := (cntN_zero S n).1 hh.2 m (by omega)
          rw [ho] at this; cases this)]
        exact h2 m (by omega) ho hl
/-- What both tell. -/
theorem both (S : Nat → Nat) : (0 < cntL S gAll → leL S gAll < 65536 ∧ fstN S 65536 = cst (mths (leL S gAll))) ∧ (cntL S gAll = 0 → fstN S 65536 = fun _ => 0) := by
  constructor
  · intro h
    obtain ⟨h1, h2, h3⟩ := leL_spec S h
    refine ⟨h2, (fstN_spec S 65536).2 _ h2 h1 fun k hk => ?_⟩
    cases ho : okB S k
    · rfl
    · have := h3 k (by omega) ho
      omega
  · intro h
    rw [cntL_cntN] at h
    exact (fstN_spec S 65536).1 h

theorem Count_yes (S : Nat → Nat) (hS : ∀ i, i < 16 → S i < 65536) (cc : Nat) (Fm : Nat → Int) (hcc : cntN S 65536 = cc) (hFm : fstN S 65536 = Fm) (w : World) (L : Laid w) (LB : LaidB w) :
    Calls Tryd.prog 44 #[.agg (irow 16 (cst S))] w fun e w' => e = .returned (.tuple #[.int .i64 ((cc : Nat) : Int), .agg (irow 4 Fm), .int .i64 0]) ∧ Below w.heap.size w w' :=
  callsIn_wide.1 (Count_in S hS 9 (by omega) w L LB gAll rfl cc (leL S gAll) Fm (by rw [cntL_cntN, hcc]) rfl
    (fun h => by rw [← hFm]; exact (both S).1 (by rw [cntL_cntN, hcc]; exact h)) (fun h => by rw [← hFm]; exact (both S).2 (by rw [cntL_cntN, hcc]; exact h)))

set_option maxHeartbeats 1000000 in
theorem Count_no (S : Nat → Int) (hS : ¬ ∀ i, i < 16 → FSet (S i)) (w : World) :
    Calls Tryd.prog 44 #[.agg (irow 16 S)] w fun e w' => e = .returned (.tuple #[.int .i64 0, .agg (irow 4 (fun _ => 0)), .int .i64 2]) ∧ Below w.heap.size w w' := by
  have hs0 : (((w.alloc (.cells (irow 16 S) 78)).alloc (.cells #[.int .i64 0] 3)).alloc (.cells (irow 4 (fun _ => 0)) 37)).heap[w.heap.size]? = some (.cells (irow 16 S) 78 (0, 0)) := by
    rw [heap_alloc_old _ _ (by simp; omega)]; exact heap_alloc2_old w _ _
  have hc0 : (((w.alloc (.cells (irow 16 S) 78)).alloc (.cells #[.int .i64 0] 3)).alloc (.cells (irow 4 (fun _ => 0)) 37)).heap[w.heap.size + 1]? = some (.cells #[.int .i64 0] 3 (0, 0)) := by
    rw [heap_alloc_old _ _ (by simp)]; exact heap_alloc2_new w _ _
  have hf0 : (((w.alloc (.cells (irow 16 S) 78)).alloc (.cells #[.int .i64 0] 3)).alloc (.cells (irow 4 (fun _ => 0)) 37)).heap[w.heap.size + 1 + 1]? = some (.cells (irow 4 (fun _ => 0)) 37 (0, 0)) := by
    have := heap_alloc_new ((w.alloc (.cells (irow 16 S) 78)).alloc (.cells #[.int .i64 0] 3)) (.cells (irow 4 (fun _ => 0)) 37)
    simpa using this
  have hb0 : Below w.heap.size w (((w.alloc (.cells (irow 16 S) 78)).alloc (.cells #[.int .i64 0] 3)).alloc (.cells (irow 4 (fun _ => 0)) 37)) := (((Below.refl _ _).alloc (Nat.le_refl _) _).alloc (by simp) _).alloc (by simp; omega) _
  have HS := hid hS
  clear hS
  go_enter Tryd.func44, Tryd.ntmps44
  go_wp2_with (go_at_call 67; rw [zeros4]; generalize ((w.alloc (.cells (irow 16 S) 78)).alloc (.cells #[.int .i64 0] 3)).alloc (.cells (irow 4 (fun _ => 0)) 37) = w1 at hs0 hc0 hf0 hb0 ⊢; refine (containsSet_no S w.heap.size 0 16 _ _ (by omega) (fun i hi => by rw [Nat.zero_add]; exact cell_irow hs0 i hi) HS.out).mono ?_; rintro e w' ⟨rfl, rfl⟩)
  generalize hlo : w.heap.size = lo at *
  have e1 := one_cellOf hc0
  have z1 := frozen_of_row _ _ 0 _ _ hc0
  have m0 := cell_irow hf0 0 (by omega)
  have m1 := cell_irow hf0 1 (by omega)
  have m2 := cell_irow hf0 2 (by omega)
  have m3 := cell_irow hf0 3 (by omega)
  have y0 := frozen_of_row _ _ 0 _ _ hf0
  have y1 := frozen_of_row _ _ 1 _ _ hf0
  have y2 := frozen_of_row _ _ 2 _ _ hf0
  have y3 := frozen_of_row _ _ 3 _ _ hf0
  have n12 : lo + 1 ≠ lo + 1 + 1 := by omega
  have n21 : lo + 1 + 1 ≠ lo + 1 := by omega
  have HF0 := hid hf0
  have HC0 := hid hc0
  clear hs0 hc0 hf0
  go_region
  all_goals go_wp2_with fail
  have Q1 := (one_set HC0.out (.int .i64 0))
  have Q2 := row4_again (S := fun _ => 0) ((heap_setCell_other w1 ⟨lo + 1, 0, none⟩ (lo + 1 + 1) (.int .i64 0) n21).trans HF0.out)
  have Q1' := fun (v : Value) => (heap_setCell_other (((((w1.setCell ⟨lo + 1, 0, none⟩ (.int .i64 0)).setCell ⟨lo + 1 + 1, 0, none⟩ v).setCell ⟨lo + 1 + 1, 1, none⟩ v).setCell ⟨lo + 1 + 1, 2, none⟩ v)) ⟨lo + 1 + 1, 3, none⟩ (lo + 1) v n12).trans ((heap_setCell_other (((w1.setCell ⟨lo + 1, 0, none⟩ (.int .i64 0)).setCell ⟨lo + 1 + 1, 0, none⟩ v).setCell ⟨lo + 1 + 1, 1, none⟩ v) ⟨lo + 1 + 1, 2, none⟩ (lo + 1) v n12).trans ((heap_setCell_other ((w1.setCell ⟨lo + 1, 0, none⟩ (.int .i64 0)).setCell ⟨lo + 1 + 1, 0, none⟩ v) ⟨lo + 1 + 1, 1, none⟩ (lo + 1) v n12).trans ((heap_setCell_other (w1.setCell ⟨lo + 1, 0, none⟩ (.int .i64 0)) ⟨lo + 1 + 1, 0, none⟩ (lo + 1) v n12).trans Q1)))
  have Q3 := ((((hb0.setCell (show lo ≤ lo + 1 by omega) (p := ⟨lo + 1, 0, none⟩) (.int .i64 0)).setCell (show lo ≤ lo + 1 + 1 by omega) (p := ⟨lo + 1 + 1, 0, none⟩) (.int .i64 0)).setCell (show lo ≤ lo + 1 + 1 by omega) (p := ⟨lo + 1 + 1, 1, none⟩) (.int .i64 0)).setCell (show lo ≤ lo + 1 + 1 by omega) (p := ⟨lo + 1 + 1, 2, none⟩) (.int .i64 0)).setCell (show lo ≤ lo + 1 + 1 by omega) (p := ⟨lo + 1 + 1, 3, none⟩) (.int .i64 0)
  refine bodyPost_ret (results3 Tryd.results44 _ _ (lo + 1) (lo + 1 + 1) 0 (fun _ => 0) (.int .i64 2) rfl rfl rfl (one_cellOf (show (World.drew _).heap[lo + 1]? = _ from Q1' _)) (show (World.drew _).heap[lo + 1 + 1]? = _ from Q2)) rfl ⟨rfl, ?_⟩
  rw [hlo]
  exact Q3.drew
end Go.Proofs.YtphnibllfpkkkaaDoor
/- Shares: counts add up; how many charts have each judge: plain Lean. -/
namespace Go.Proofs.YtphnibllfpkkkaaDoor
open Go Go.RowKit
set_option maxRecDepth 100000

theorem sumN_split (f : Nat → Nat) (a : Nat) : ∀ b, sumN f (a + b) = sumN f a + sumN (fun i => f (a + i)) b
  | 0 => by simp [sumN]
  | b + 1 => by
    rw [show a + (b + 1) = (a + b) + 1 by omega, sumN, sumN_split f a b, sumN]
    omega
theorem add_xor (d i : Nat) (hi : i < 2 ^ d) : 2 ^ d + i = i ^^^ 2 ^ d := by
  have h := Nat.two_pow_add_eq_or_of_lt hi 1
  rw [Nat.mul_one] at h
  rw [h]
  apply Nat.eq_of_testBit_eq
  intro j
  rw [Nat.testBit_or, Nat.testBit_xor, Nat.testBit_two_pow]
  by_cases e : d = j
  · subst e
    rw [Nat.testBit_lt_two_pow hi]; simp
  · simp [e]
theorem der_xorN (a b k : Nat) (hk : k < 16) : der (mths (a ^^^ b)) k = der (mths a) k ^^^ der (mths b) k := by
  rw [← der_xor _ _ k hk]
  congr 1
  funext j
  exact mths_xor a b j
theorem xor_move (x c t : Nat) : x ^^^ c = t ↔ x = t ^^^ c := by
  constructor
  · intro h
    rw [← h, Nat.xor_assoc, Nat.xor_self, Nat.xor_zero]
  · intro h
    rw [h, Nat.xor_assoc, Nat.xor_self, Nat.xor_zero]
/-- How many of the first 2^d charts have each judge. -/
def jdL : Nat → List Nat
  | 0 => [1, 0, 0, 0, 0, 0, 0, 0, 0, 0, 0, 0, 0, 0, 0, 0]
  | d + 1 => (List.range 16).map fun t => (jdL d).getD t 0 + (jdL d).getD (t ^^^ der (mths (2 ^ d)) 14) 0
theorem jd_zero (t : Nat) (ht : t < 16) : (if der (mths 0) 14 = t then 1 else 0) = (jdL 0).getD t 0 := by
  have : ∀ t : Fin 16, (if der (mths 0) 14 = t.1 then 1 else 0) = (jdL 0).getD t.1 0 := by decide +kernel
  exact this ⟨t, ht⟩
theorem jd_at : ∀ d t, t < 16 → sumN (fun n => if der (mths n) 14 = t then 1 else 0) (2 ^ d) = (jdL d).getD t 0
  | 0, t, ht => by
    rw [← jd_zero t ht]
    simp [sumN]
  | d + 1, t, ht => by
    have hc : der (mths (2 ^ d)) 14 < 16 := der_lt _ (fun i _ => mths_lt _ i) 14 (by omega)
    have hx : t ^^^ der (mths (2 ^ d)) 14 < 16 := Nat.xor_lt_two_pow (n := 4) ht hc
    have e1 : sumN (fun i => if der (mths (2 ^ d + i)) 14 = t then 1 else 0) (2 ^ d) = sumN (fun i => if der (mths i) 14 = t ^^^ der (mths (2 ^ d)) 14 then 1 else 0) (2 ^ d) := sumN_congr _ fun i hi => by
      rw [add_xor d i hi, der_xorN _ _ 14 (by omega)]
      by_cases h : der (mths i) 14 = t ^^^ der (mths (2 ^ d)) 14
      · rw [if_pos h, if_pos ((xor_move _ _ _).2 h)]
      · rw [if_neg h, if_neg (fun hh => h ((xor_move _ _ _).1 hh))]
    rw [show 2 ^ (d + 1) = 2 ^ d + 2 ^ d by rw [Nat.pow_succ]; omega, sumN_split, e1, jd_at d t ht, jd_at d _ hx]
    have e2 : (jdL (d + 1))[t]? = some ((jdL d).getD t 0 + (jdL d).getD (t ^^^ der (mths (2 ^ d)) 14) 0) := by
      rw [jdL, List.getElem?_map, List.getElem?_range ht]
      rfl
    rw [List.getD_eq_getElem?_getD (l := jdL (d + 1)), e2]
    rfl
theorem jd_all : ∀ f : Fin 16, (jdL 16).getD f.1 0 = if onT f.1 4 % 2 = 1 then 0 else 8192 := by decide +kernel
theorem judge_cnt (f : Nat) (hf : f < 16) : sumN (fun n => if der (mths n) 14 = f then 1 else 0) 65536 = if onT f 4 % 2 = 1 then 0 else 8192 :=
  (jd_at 16 f hf).trans (jd_all ⟨f, hf⟩)
theorem bit_one (f x : Nat) (hf : f < 16) (hx : x < 16) : bitB (2 ^ f) x = decide (x = f) := by
  have : ∀ f x : Fin 16, bitB (2 ^ f.1) x.1 = decide (x.1 = f.1) := by decide +kernel
  exact this ⟨f, hf⟩ ⟨x, hx⟩
/-- A chart is meant where its figure at the place is, and all others are. -/
theorem okB_at (S : Nat → Nat) (p v n : Nat) (hp : p < 16) : okB (upN S p v) n = (bitB v (der (mths n) p) && okB (upN S p 65535) n) := by
  have hd : ∀ i, i < 16 → der (mths n) i < 16 := der_lt (mths n) (fun i _ => mths_lt n i)
  rw [Bool.eq_iff_iff, Bool.and_eq_true, okB_iff, okB_iff]
  constructor
  · intro h
    refine ⟨by simpa [upN] using h p hp, fun i hi => ?_⟩
    by_cases e : i = p
    · subst e
      simp only [upN, if_pos]; exact bit_every _ (hd i hi)
    · have := h i hi
      simp only [upN, if_neg e] at this ⊢; exact this
  · rintro ⟨h1, h2⟩ i hi
    by_cases e : i = p
    · subst e
      simp only [upN, if_pos]; exact h1
    · have := h2 i hi
      simp only [upN, if_neg e] at this ⊢; exact this
theorem judge_each (f : Nat) (hf : f < 16) : cntN (upN (fun _ => 65535) 14 (2 ^ f)) 65536 = if onT f 4 % 2 = 1 then 0 else 8192 := by
  rw [← judge_cnt f hf]
  refine sumN_congr _ fun n _ => ?_
  have hd : ∀ i, i < 16 → der (mths n) i < 16 := der_lt (mths n) (fun i _ => mths_lt n i)
  have ha : okB (upN (fun _ => 65535) 14 65535) n = true := (okB_iff _ _).2 fun i hi => by
    have : upN (fun _ => 65535) 14 65535 i = 65535 := by simp only [upN]; split <;> rfl
    rw [this]; exact bit_every _ (hd i hi)
  rw [okB_at _ 14 _ n (by omega), ha, Bool.and_true, bit_one f _ hf (hd 14 (by omega))]
  by_cases h : der (mths n) 14 = f
  · simp [h]
  · simp [h]
theorem quarter (x : Nat) (hx : x < 16) : (if bitB 15 x then 1 else 0) + (if bitB 240 x then 1 else 0) + (if bitB 3840 x then 1 else 0) + (if bitB 61440 x then 1 else 0) = 1 := by
  have : ∀ x : Fin 16, (if bitB 15 x.1 then 1 else 0) + (if bitB 240 x.1 then 1 else 0) + (if bitB 3840 x.1 then 1 else 0) + (if bitB 61440 x.1 then 1 else 0) = 1 := by decide +kernel
  exact this ⟨x, hx⟩
theorem if_and (a b : Bool) : (if (a && b) = true then 1 else 0) = (if a = true then (1 : Nat) else 0) * (if b = true then 1 else 0) := by cases a <;> cases b <;> rfl
theorem parts (S : Nat → Nat) (p : Nat) (hp : p < 16) : cntN (upN S p 65535) 65536 = cntN (upN S p 15) 65536 + cntN (upN S p 240) 65536 + cntN (upN S p 3840) 65536 + cntN (upN S p 61440) 65536 := by
  have e : ∀ v, cntN (upN S p v) 65536 = sumN (fun n => (if bitB v (der (mths n) p) = true then 1 else 0) * (if okB (upN S p 65535) n = true then 1 else 0)) 65536 := fun v => by
    refine sumN_congr _ fun n _ => ?_
    rw [okB_at S p v n hp, if_and]
  rw [e 15, e 240, e 3840, e 61440, ← sumN_add, ← sumN_add, ← sumN_add]
  refine sumN_congr _ fun n _ => ?_
  have hd : der (mths n) p < 16 := der_lt (mths n) (fun i _ => mths_lt n i) p hp
  have := quarter _ hd
  rw [← Nat.add_mul, ← Nat.add_mul, ← Nat.add_mul, this, Nat.one_mul]
theorem cntN_max (S : Nat → Nat) : ∀ n, cntN S n ≤ n
  | 0 => Nat.le_refl _
  | n + 1 => by
    have := cntN_max S n
    rw [cntN_succ]; split <;> omega
/-- What is told first is a chart that is meant. -/
theorem first_is (S : Nat → Nat) (h : cntN S 65536 ≠ 0) : ∃ m, m < 65536 ∧ okB S m = true ∧ fstN S 65536 = cst (mths m) := by
  have hp : 0 < cntL S gAll := by rw [cntL_cntN]; omega
  obtain ⟨h1, h2⟩ := (both S).1 hp
  exact ⟨_, h1, (leL_spec S hp).1, h2⟩
end Go.Proofs.YtphnibllfpkkkaaDoor
