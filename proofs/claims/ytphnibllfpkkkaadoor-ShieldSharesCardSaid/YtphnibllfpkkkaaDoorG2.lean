/- The two ways of counting agree; Count as a contract. -/
import Derived.Test.YtphnibllfpkkkaaDoorR10
namespace Go.Proofs.YtphnibllfpkkkaaDoor
open Go Go.RowKit
set_option maxRecDepth 100000

theorem cntL_range (S : Nat → Nat) : ∀ n, cntL S (List.range n) = sumN (fun i => if okB S (gr i) then 1 else 0) n
  | 0 => by simp [cntL, sumN]
  | n + 1 => by rw [range_snoc, cntL_snoc, cntL_range S n]; rfl
theorem cntL_cntN (S : Nat → Nat) : cntL S gAll = cntN S 65536 := by
  have h1 : cntL S gAll = sumN (fun i => if okB S (gr i) then 1 else 0) 65536 := cntL_range S 65536
  rw [h1, sumN_gr (fun n => if okB S n then 1 else 0)]
  rfl
theorem cntN_succ (S : Nat → Nat) (n : Nat) : cntN S (n + 1) = cntN S n + if okB S n then 1 else 0 := rfl
theorem cntN_zero (S : Nat → Nat) : ∀ n, cntN S n = 0 ↔ ∀ k, k < n → okB S k = false
  | 0 => ⟨fun _ k hk => by omega, fun _ => rfl⟩
  | n + 1 => by
    rw [cntN_succ]
    constructor
    · intro h k hk
      have h0 : cntN S n = 0 := by omega
      by_cases e : k = n
      · subst e
        cases ho : okB S k
        · rfl
        · rw [ho] at h; simp at h
      · exact (cntN_zero S n).1 h0 k (by omega)
    · intro h
      rw [(cntN_zero S n).2 (fun k hk => h k (by omega)), h n (by omega)]; rfl
theorem fstN_spec (S : Nat → Nat) : ∀ n, (cntN S n = 0 → fstN S n = fun _ => 0) ∧ (∀ m, m < n → okB S m = true → (∀ k, k < m → okB S k = false) → fstN S n = cst (mths m))
  | 0 => ⟨fun _ => rfl, fun m hm => by omega⟩
  | n + 1 => by
    obtain ⟨h1, h2⟩ := fstN_spec S n
    have e : fstN S (n + 1) = if okB S n = true ∧ cntN S n = 0 then cst (mths n) else fstN S n := rfl
    rw [e]
    refine ⟨fun h => ?_, fun m hm ho hl => ?_⟩
    · have h0 := (cntN_zero S (n + 1)).1 h
      rw [if_neg (fun hh => by rw [h0 n (by omega)] at hh; exact absurd hh.1 (by decide))]
      exact h1 ((cntN_zero S n).2 fun k hk => h0 k (by omega))
    · by_cases em : m = n
      · subst em
        rw [if_pos ⟨ho, (cntN_zero S m).2 hl⟩]
      · rw [if_neg (fun hh => by
          have := (cntN_zero S n).1 hh.2 m (by omega)
          rw [ho] at this; cases this)]
        exact h2 m (by omega) ho hl
/-- What both tell. -/
theorem both (S : Nat → Nat) : (0 < cntL S gAll → leL S gAll < 65536 ∧ fstN S 65536 = cst (mths (leL S gAll))) ∧ (cntL S gAll = 0 → fstN S 65536 = fun _ => 0) := by
  constructor
  · intro h
    obtain ⟨h1, h2, h3⟩ := leL_spec S h
    refine ⟨h2, (fstN_spec S 65536).2 _ h2 h1 fun k hk => ?_⟩
    cases ho : okB S k
    · rfl
    · have := h3 k (by omega) ho
      omega
  · intro h
    rw [cntL_cntN] at h
    exact (fstN_spec S 65536).1 h

theorem Count_yes (S : Nat → Nat) (hS : ∀ i, i < 16 → S i < 65536) (cc : Nat) (Fm : Nat → Int) (hcc : cntN S 65536 = cc) (hFm : fstN S 65536 = Fm) (w : World) (L : Laid w) (LB : LaidB w) :
    Calls Tryd.prog 44 #[.agg (irow 16 (cst S))] w fun e w' => e = .returned (.tuple #[.int .i64 ((cc : Nat) : Int), .agg (irow 4 Fm), .int .i64 0]) ∧ Below w.heap.size w w' :=
  callsIn_wide.1 (Count_in S hS 9 (by omega) w L LB gAll rfl cc (leL S gAll) Fm (by rw [cntL_cntN, hcc]) rfl
    (fun h => by rw [← hFm]; exact (both S).1 (by rw [cntL_cntN, hcc]; exact h)) (fun h => by rw [← hFm]; exact (both S).2 (by rw [cntL_cntN, hcc]; exact h)))

set_option maxHeartbeats 1000000 in
theorem Count_no (S : Nat → Int) (hS : ¬ ∀ i, i < 16 → FSet (S i)) (w : World) :
    Calls Tryd.prog 44 #[.agg (irow 16 S)] w fun e w' => e = .returned (.tuple #[.int .i64 0, .agg (irow 4 (fun _ => 0)), .int .i64 2]) ∧ Below w.heap.size w w' := by
  have hs0 : (((w.alloc (.cells (irow 16 S) 78)).alloc (.cells #[.int .i64 0] 3)).alloc (.cells (irow 4 (fun _ => 0)) 37)).heap[w.heap.size]? = some (.cells (irow 16 S) 78 (0, 0)) := by
    rw [heap_alloc_old _ _ (by simp; omega)]; exact heap_alloc2_old w _ _
  have hc0 : (((w.alloc (.cells (irow 16 S) 78)).alloc (.cells #[.int .i64 0] 3)).alloc (.cells (irow 4 (fun _ => 0)) 37)).heap[w.heap.size + 1]? = some (.cells #[.int .i64 0] 3 (0, 0)) := by
    rw [heap_alloc_old _ _ (by simp)]; exact heap_alloc2_new w _ _
  have hf0 : (((w.alloc (.cells (irow 16 S) 78)).alloc (.cells #[.int .i64 0] 3)).alloc (.cells (irow 4 (fun _ => 0)) 37)).heap[w.heap.size + 1 + 1]? = some (.cells (irow 4 (fun _ => 0)) 37 (0, 0)) := by
    have := heap_alloc_new ((w.alloc (.cells (irow 16 S) 78)).alloc (.cells #[.int .i64 0] 3)) (.cells (irow 4 (fun _ => 0)) 37)
    simpa using this
  have hb0 : Below w.heap.size w (((w.alloc (.cells (irow 16 S) 78)).alloc (.cells #[.int .i64 0] 3)).alloc (.cells (irow 4 (fun _ => 0)) 37)) := (((Below.refl _ _).alloc (Nat.le_refl _) _).alloc (by simp) _).alloc (by simp; omega) _
  have HS := hid hS
  clear hS
  go_enter Tryd.func44, Tryd.ntmps44
  go_wp2_with (go_at_call 67; rw [zeros4]; generalize ((w.alloc (.cells (irow 16 S) 78)).alloc (.cells #[.int .i64 0] 3)).alloc (.cells (irow 4 (fun _ => 0)) 37) = w1 at hs0 hc0 hf0 hb0 ⊢; refine (containsSet_no S w.heap.size 0 16 _ _ (by omega) (fun i hi => by rw [Nat.zero_add]; exact cell_irow hs0 i hi) HS.out).mono ?_; rintro e w' ⟨rfl, rfl⟩)
  generalize hlo : w.heap.size = lo at *
  have e1 := one_cellOf hc0
  have z1 := frozen_of_row _ _ 0 _ _ hc0
  have m0 := cell_irow hf0 0 (by omega)
  have m1 := cell_irow hf0 1 (by omega)
  have m2 := cell_irow hf0 2 (by omega)
  have m3 := cell_irow hf0 3 (by omega)
  have y0 := frozen_of_row _ _ 0 _ _ hf0
  have y1 := frozen_of_row _ _ 1 _ _ hf0
  have y2 := frozen_of_row _ _ 2 _ _ hf0
  have y3 := frozen_of_row _ _ 3 _ _ hf0
  have n12 : lo + 1 ≠ lo + 1 + 1 := by omega
  have n21 : lo + 1 + 1 ≠ lo + 1 := by omega
  have HF0 := hid hf0
  have HC0 := hid hc0
  clear hs0 hc0 hf0
  go_region
  all_goals go_wp2_with fail
  have Q1 := (one_set HC0.out (.int .i64 0))
  have Q2 := row4_again (S := fun _ => 0) ((heap_setCell_other w1 ⟨lo + 1, 0, none⟩ (lo + 1 + 1) (.int .i64 0) n21).trans HF0.out)
  have Q1' := fun (v : Value) => (heap_setCell_other (((((w1.setCell ⟨lo + 1, 0, none⟩ (.int .i64 0)).setCell ⟨lo + 1 + 1, 0, none⟩ v).setCell ⟨lo + 1 + 1, 1, none⟩ v).setCell ⟨lo + 1 + 1, 2, none⟩ v)) ⟨lo + 1 + 1, 3, none⟩ (lo + 1) v n12).trans ((heap_setCell_other (((w1.setCell ⟨lo + 1, 0, none⟩ (.int .i64 0)).setCell ⟨lo + 1 + 1, 0, none⟩ v).setCell ⟨lo + 1 + 1, 1, none⟩ v) ⟨lo + 1 + 1, 2, none⟩ (lo + 1) v n12).trans ((heap_setCell_other ((w1.setCell ⟨lo + 1, 0, none⟩ (.int .i64 0)).setCell ⟨lo + 1 + 1, 0, none⟩ v) ⟨lo + 1 + 1, 1, none⟩ (lo + 1) v n12).trans ((heap_setCell_other (w1.setCell ⟨lo + 1, 0, none⟩ (.int .i64 0)) ⟨lo + 1 + 1, 0, none⟩ (lo + 1) v n12).trans Q1)))
  have Q3 := ((((hb0.setCell (show lo ≤ lo + 1 by omega) (p := ⟨lo + 1, 0, none⟩) (.int .i64 0)).setCell (show lo ≤ lo + 1 + 1 by omega) (p := ⟨lo + 1 + 1, 0, none⟩) (.int .i64 0)).setCell (show lo ≤ lo + 1 + 1 by omega) (p := ⟨lo + 1 + 1, 1, none⟩) (.int .i64 0)).setCell (show lo ≤ lo + 1 + 1 by omega) (p := ⟨lo + 1 + 1, 2, none⟩) (.int .i64 0)).setCell (show lo ≤ lo + 1 + 1 by omega) (p := ⟨lo + 1 + 1, 3, none⟩) (.int .i64 0)
  refine bodyPost_ret (results3 Tryd.results44 _ _ (lo + 1) (lo + 1 + 1) 0 (fun _ => 0) (.int .i64 2) rfl rfl rfl (one_cellOf (show (World.drew _).heap[lo + 1]? = _ from Q1' _)) (show (World.drew _).heap[lo + 1 + 1]? = _ from Q2)) rfl ⟨rfl, ?_⟩
  rw [hlo]
  exact Q3.drew
end Go.Proofs.YtphnibllfpkkkaaDoor
