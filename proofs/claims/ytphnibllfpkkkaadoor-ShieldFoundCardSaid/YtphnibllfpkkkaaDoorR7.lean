/- Walk of the reference: Way. -/
import Derived.Test.YtphnibllfpkkkaaDoorR5
import Derived.Test.YtphnibllfpkkkaaDoorW10
import Derived.Test.YtphnibllfpkkkaaDoorR1
namespace Go.Proofs.YtphnibllfpkkkaaDoor
open Go Go.RowKit
set_option maxRecDepth 100000

theorem ln_bit (f l : Nat) : ((ln f l : Nat) : Int) = if bitB f l then 1 else 2 := by
  have := Nat.mod_lt (f / 2 ^ l) (show 0 < 2 by omega)
  unfold ln bitB
  by_cases h : f / 2 ^ l % 2 = 1
  · simp [h]
  · have : f / 2 ^ l % 2 = 0 := by omega
    simp [this]
/-- What the reference's Way gives: nothing, or the four places. -/
def rwayL (F : Nat → Nat) (l : Nat) : List Int := if bitB (F 14) l then wlist F l 3 else []

theorem rkeep {w W : World} {v : Value} {F : Nat → Nat} {at' : Nat} {xs : List Int} (hi : Ints W (w.heap.size + 1) v xs)
    (hg : W.heap[w.heap.size]? = some (.cells (irow 16 (cst F)) 24 (0, 0))) (hb : Below w.heap.size w W) :
    Ints (W.alloc (.cells #[.int .i64 (at' : Nat)] 3)) (w.heap.size + 1) v xs ∧ (∀ w', (W.alloc (.cells #[.int .i64 (at' : Nat)] 3)).grownBy w' v.ownBlock →
      w'.heap[w.heap.size]? = some (.cells (irow 16 (cst F)) 24 (0, 0)) ∧ Below w.heap.size w w') := by
  have hgl := heap_lt hg
  have hi3 : Ints (W.alloc (.cells #[.int .i64 (at' : Nat)] 3)) (w.heap.size + 1) v xs := hi.below ((Below.refl _ _).alloc (Nat.le_refl _) _)
  refine ⟨hi3, fun w' hgr => ?_⟩
  have p1 : (W.alloc (.cells #[.int .i64 (at' : Nat)] 3)).heap[w.heap.size]? = some (.cells (irow 16 (cst F)) 24 (0, 0)) := by rw [Below.heap_alloc _ _ _ hgl]; exact hg
  exact ⟨grown_heap hgr hi3 p1 (by omega), grown_below (hb.alloc hb.size _) hgr hi3 (by omega) (by simp; omega)⟩

set_option maxHeartbeats 1000000 in
theorem rWay (F : Nat → Nat) (hF : ∀ i, i < 16 → F i < 16) (l : Nat) (hl : l < 4) (w : World) :
    Calls Tryd.prog 21 #[.agg (irow 16 (cst F)), .int .i64 (l : Nat)] w fun e w' => ∃ v, e = .returned v ∧ Ints w' w.heap.size v (rwayL F l) ∧ Below w.heap.size w w' := by
  have h0 := heap_alloc_new w (.cells (irow 16 (cst F)) 24)
  have hb0 : Below w.heap.size w (w.alloc (.cells (irow 16 (cst F)) 24)) := (Below.refl _ _).alloc (Nat.le_refl _) _
  have hsz : (w.alloc (.cells (irow 16 (cst F)) 24)).heap.size = w.heap.size + 1 := by simp
  have HL := hid (fun k (hk : k < 16) W => rLine (F k) l (hF k hk) (by omega) W)
  have hc14 : (w.alloc (.cells (irow 16 (cst F)) 24)).cell? ⟨w.heap.size, 14, none⟩ = some (.int .i64 (F 14 : Nat)) := cell_irow h0 14 (by omega)
  have HLn := hid (fun k => ln_bit (F k) l)
  clear hF
  cases h14 : bitB (F 14) l with
  | false =>
    have hl14 : ((ln (F 14) l : Nat) : Int) = 2 := by rw [HLn.out, h14]; rfl
    have Hr : rwayL F l = [] := by unfold rwayL; rw [h14]; rfl
    rw [Hr]
    go_enter Tryd.func21, Tryd.ntmps21
    go_wp2_with (go_at_call 18; refine (HL.out 14 (by omega) _).mono ?_; rintro e w' ⟨rfl, rfl⟩; rw [hl14])
    go_ret
    exact ⟨_, rfl, Ints.nil _ _, hb0⟩
  | true =>
    have hl14 : ((ln (F 14) l : Nat) : Int) = 1 := by rw [HLn.out, h14]; rfl
    have Hr : rwayL F l = wlist F l 3 := by unfold rwayL; rw [h14]; rfl
    rw [Hr]
    go_enter Tryd.func21, Tryd.ntmps21
    go_wp2_with (go_at_call 18; refine (HL.out 14 (by omega) _).mono ?_; rintro e w' ⟨rfl, rfl⟩; rw [hl14])
    have hg3 : ((w.alloc (.cells (irow 16 (cst F)) 24)).alloc (.cells #[.int .i64 14] 3)).heap[w.heap.size]? = some (.cells (irow 16 (cst F)) 24 (0, 0)) := (Below.heap_alloc _ _ _ (by simp)).trans h0
    have hi3 : Ints ((w.alloc (.cells (irow 16 (cst F)) 24)).alloc (.cells #[.int .i64 14] 3)) (w.heap.size + 1) (.slice (some ⟨w.heap.size + 1, 0, none⟩) 1 1) (wlist F l 0) := by
      have := Ints.one (w.alloc (.cells (irow 16 (cst F)) 24)) (w.heap.size + 1) (by simp) 14
      rwa [hsz] at this
    have hb3 : Below w.heap.size w ((w.alloc (.cells (irow 16 (cst F)) 24)).alloc (.cells #[.int .i64 14] 3)) := hb0.alloc (by simp) _
    generalize hW3 : (w.alloc (.cells (irow 16 (cst F)) 24)).alloc (.cells #[.int .i64 14] 3) = w3 at *
    clear hW3 h0 hb0 hc14 hsz hl14 Hr
    go_loopw [5, 6] (fun v i wr => ∃ j : Nat, j ≤ 3 ∧ i = .int .i64 (wk F l j : Nat) ∧ Ints wr (w.heap.size + 1) v (wlist F l j) ∧ wr.heap[w.heap.size]? = some (.cells (irow 16 (cst F)) 24 (0, 0)) ∧ Below w.heap.size w wr) (fun _ i _ => (intOf i).toNat)
    case atStart => exact ⟨0, by omega, rfl, hi3, hg3, hb3⟩
    case round =>
      clear hi3 hg3 hb3
      obtain ⟨j, hj, rfl, hi, hg, hb3⟩ := hrel
      have hbd := wk_bd F l
      by_cases hlt : j < 3
      · have hk8 : 8 ≤ wk F l j ∧ wk F l j < 16 := by
          have : j = 0 ∨ j = 1 ∨ j = 2 := by omega
          rcases this with rfl | rfl | rfl
          · exact ⟨by rw [wk]; omega, by rw [wk]; omega⟩
          · omega
          · omega
        have hdn : pa (wk F l j) < wk F l j ∧ pb (wk F l j) < wk F l j := pa_dn _ hk8.1 hk8.2
        have hwk := hid (show wk F l (j + 1) = if bitB (F (pa (wk F l j))) l then pa (wk F l j) else pb (wk F l j) from rfl)
        have hwl := hid (show wlist F l (j + 1) = wlist F l j ++ [((wk F l (j + 1) : Nat) : Int)] from rfl)
        have hlen := wlist_len F l j
        clear hbd
        generalize wk F l j = k at *
        obtain ⟨hk8, hk16⟩ := hk8
        obtain ⟨hda, hdb⟩ := hdn
        have hpar := hid (rParents k hk8 hk16)
        have hk8' : (8 : Int) ≤ (k : Nat) := by omega
        have hla := pa_lt k
        have hca : wr.cell? ⟨w.heap.size, (pa k : Nat), none⟩ = some (.int .i64 (F (pa k) : Nat)) := cell_irow hg (pa k) hla
        have hla' : ((pa k : Nat) : Int) < 16 := by omega
        have hHLa := hid (HL.out (pa k) hla)
        have hln := HLn.out (pa k)
        have HK := hid (fun at' => rkeep (at' := at') hi hg hb3)
        have hgl := heap_lt hg
        clear hg
        cases hbit : bitB (F (pa k)) l with
        | true =>
          rw [hbit] at hln
          have Hb := hid hbit
          have hln : ((ln (F (pa k)) l : Nat) : Int) = 1 := hln
          clear hbit
          go_wp2_with (first
            | (go_at_call 54; refine (hpar.out _).mono ?_; rintro e w' ⟨rfl, rfl⟩)
            | (go_at_call 18; refine (hHLa.out _).mono ?_; rintro e w' ⟨rfl, rfl⟩; rw [hln])
            | (at_builtin; obtain ⟨hI, hK⟩ := HK.out (pa k); go_must (refine wp_append_int rfl _ _ rfl (w.heap.size + 1) _ _ rfl hI (pa k : Nat) _ 1 rfl (one_cell _ _ (by simp) _ _) (by omega) (by simp; omega) ?_); intro v' w4 ho4 hg4))
          obtain ⟨p1, p3⟩ := hK w4 hg4
          have hbit := Hb.out
          go_roundw
          case rel => exact ⟨j + 1, by omega, by rw [hwk.out, if_pos hbit], by rw [hwl.out, hwk.out, if_pos hbit]; exact ho4, p1, p3⟩
          case measure => simp [intOf]; omega
        | false =>
          rw [hbit] at hln
          have Hb := hid hbit
          have hln : ((ln (F (pa k)) l : Nat) : Int) = 2 := hln
          clear hbit
          go_wp2_with (first
            | (go_at_call 54; refine (hpar.out _).mono ?_; rintro e w' ⟨rfl, rfl⟩)
            | (go_at_call 18; refine (hHLa.out _).mono ?_; rintro e w' ⟨rfl, rfl⟩; rw [hln])
            | (at_builtin; obtain ⟨hI, hK⟩ := HK.out (pb k); go_must (refine wp_append_int rfl _ _ rfl (w.heap.size + 1) _ _ rfl hI (pb k : Nat) _ 1 rfl (one_cell _ _ (by simp) _ _) (by omega) (by simp; omega) ?_); intro v' w4 ho4 hg4))
          obtain ⟨p1, p3⟩ := hK w4 hg4
          have hbit := Hb.out
          go_roundw
          case rel => exact ⟨j + 1, by omega, by rw [hwk.out, if_neg (by rw [hbit]; decide)], by rw [hwl.out, hwk.out, if_neg (by rw [hbit]; decide)]; exact ho4, p1, p3⟩
          case measure => simp [intOf]; omega
      · have hk7 : wk F l j ≤ 7 := by
          obtain rfl : j = 3 := by omega
          omega
        obtain rfl : j = 3 := by omega
        have hge : ¬ (8 : Int) ≤ (wk F l 3 : Nat) := by omega
        go_wp2_with fail
        go_ret
        exact ⟨_, rfl, hi.mono (by omega), hb3⟩
end Go.Proofs.YtphnibllfpkkkaaDoor
/- Walk of the reference: Names. -/
namespace Go.Proofs.YtphnibllfpkkkaaDoor
open Go Go.RowKit
set_option maxRecDepth 100000

def namRow : Array Value := (namT.map fun s => Value.string ⟨s.toArray⟩).toArray
theorem namRow_at (i : Nat) (hi : i < 16) : namRow[i]? = some (.string (nam i)) := by
  have : i = 0 ∨ i = 1 ∨ i = 2 ∨ i = 3 ∨ i = 4 ∨ i = 5 ∨ i = 6 ∨ i = 7 ∨ i = 8 ∨ i = 9 ∨ i = 10 ∨ i = 11 ∨ i = 12 ∨ i = 13 ∨ i = 14 ∨ i = 15 := by omega
  rcases this with rfl | rfl | rfl | rfl | rfl | rfl | rfl | rfl | rfl | rfl | rfl | rfl | rfl | rfl | rfl | rfl <;> rfl

set_option maxHeartbeats 400000 in
theorem rNames (w : World) : Calls Tryd.prog 34 #[] w fun e w' => e = .returned (.slice (some ⟨w.heap.size, 0, none⟩) 16 16) ∧ (∀ i, i < 16 → w'.cell? ⟨w.heap.size, i, none⟩ = some (.string (nam i))) ∧ Below w.heap.size w w' := by
  go_enter Tryd.func34, Tryd.ntmps34
  go_wp2
  go_ret
  refine ⟨rfl, fun i hi => ?_, (Below.refl _ _).alloc (Nat.le_refl _) _⟩
  exact (cell_of_row _ _ i _ _ (0, 0) (heap_alloc_new w (.cells namRow 9))).trans (namRow_at i hi)
end Go.Proofs.YtphnibllfpkkkaaDoor
