/- Walks of package house: Of. -/
import Derived.Test.YtcdbkgpgjjeoiaaDoorW6
import Derived.Test.YtcdbkgpgjjeoiaaDoorHW6
import Derived.Test.YtcdbkgpgjjeoiaaDoorHP
namespace Go.Proofs.YtcdbkgpgjjeoiaaDoor
open Go Go.RowKit
set_option maxRecDepth 100000

theorem of_start (S : Nat → Int) (w : World) : ((w.alloc (.cells (irow 16 S) 88)).alloc (.cells (irow 12 fun _ => 0) 24)).heap[w.heap.size]? = some (.cells (irow 16 S) 88 (0, 0)) ∧
    ((w.alloc (.cells (irow 16 S) 88)).alloc (.cells (irow 12 fun _ => 0) 24)).heap[w.heap.size + 1]? = some (.cells (irow 12 fun _ => 0) 24 (0, 0)) ∧
    Below w.heap.size w ((w.alloc (.cells (irow 16 S) 88)).alloc (.cells (irow 12 fun _ => 0) 24)) :=
  ⟨heap_alloc2_old w _ _, heap_alloc2_new w _ _, ((Below.refl _ _).alloc (Nat.le_refl _) _).alloc (by simp) _⟩
theorem arr12_at (g : Nat) (w : World) : (Instr.arrayAt 24 (.slice (some ⟨g, 0, none⟩) 12 16)).run Tryd.prog w = .ok (.pointer (some ⟨g, 0, none⟩)) w := by kernel_rfl
set_option maxHeartbeats 1000000 in
theorem Of_arg (S : Nat → Int) (hS : ¬ ∀ i, i < 16 → Fig (S i)) (w : World) :
    Calls Tryd.prog 39 #[.agg (irow 16 S)] w fun e w' => e = .returned (.tuple #[.agg (irow 12 fun _ => 0), .int .i64 2]) ∧ Below w.heap.size w w' := by
  have HW := hid (fun W => Wrong_no S hS W)
  obtain ⟨h0, h1, hB⟩ := of_start S w
  have H0 := hid h0
  have H1 := hid h1
  clear hS h0 h1
  obtain ⟨g, hg⟩ : ∃ g, w.heap.size = g := ⟨_, rfl⟩
  go_enter Tryd.func39, Tryd.ntmps39
  go_wp2_with fail
  simp only [zeros12]
  generalize (w.alloc (.cells (irow 16 S) 88)).alloc (.cells (irow 12 fun _ => 0) 24) = w1 at *
  rw [hg] at H0 H1 hB
  go_wp2_with (first
    | (refine ldrow arrShield _ rfl rfl _ rfl _ _ H0.out ?_)
    | (refine ldrow arrHouses _ rfl rfl _ rfl _ _ H1.out ?_)
    | (refine strow arrHouses _ _ rfl rfl _ (fun _ => 0) rfl rfl _ _ H1.out ?_)
    | (go_at_call 63; refine (HW.out _).mono ?_; rintro e w2 ⟨rfl, hb⟩; have hsz := hB.size; have H1 := hid (heap_below hb H1.out (heap_lt H1.out)); have hB := hB.trans (hb.mono (by omega))))
  have hsz := hB.size
  refine retrow2 arrHouses Tryd.results39 (g + 1) (fun _ => 0) _ _ rfl rfl (setRow_heap _ _ _ _ _ _ H1.out) rfl ?_
  exact ⟨rfl, hg ▸ below_setRow hB (by omega) _⟩
set_option maxHeartbeats 1000000 in
theorem Of_wrong (F : Nat → Nat) (hF : ∀ i, i < 16 → F i < 16) (hw : wl F 16 ≠ []) (w : World) (L : Laid w) :
    Calls Tryd.prog 39 #[.agg (irow 16 (cst F))] w fun e w' => e = .returned (.tuple #[.agg (irow 12 fun _ => 0), .int .i64 30]) ∧ Below w.heap.size w w' := by
  have HW := hid (fun W (hW : Below w.heap.size w W) => Wrong_yes F hF W (L.below hW))
  obtain ⟨h0, h1, hB⟩ := of_start (cst F) w
  have H0 := hid h0
  have H1 := hid h1
  have hpos : 0 < (wl F 16).length := List.length_pos_iff.2 hw
  generalize wl F 16 = L0 at *
  have hpos' : (0 : Int) < ((L0.length : Nat) : Int) := by omega
  clear hF h0 h1 L hw
  obtain ⟨g, hg⟩ : ∃ g, w.heap.size = g := ⟨_, rfl⟩
  go_enter Tryd.func39, Tryd.ntmps39
  go_wp2_with fail
  simp only [zeros12]
  generalize (w.alloc (.cells (irow 16 (cst F)) 88)).alloc (.cells (irow 12 fun _ => 0) 24) = w1 at *
  rw [hg] at H0 H1 hB HW
  go_wp2_with (first
    | (refine ldrow arrShield _ rfl rfl _ rfl _ _ H0.out ?_)
    | (refine ldrow arrHouses _ rfl rfl _ rfl _ _ H1.out ?_)
    | (refine strow arrHouses _ _ rfl rfl _ (fun _ => 0) rfl rfl _ _ H1.out ?_)
    | (go_at_call 63; refine (HW.out _ hB).mono ?_; rintro e w2 ⟨v, rfl, hI, hb⟩; obtain ⟨p, c, rfl⟩ := row_form hI; have hsz := hB.size; have H1 := hid (heap_below hb H1.out (heap_lt H1.out)); have hB := hB.trans (hb.mono (by omega)); clear hI))
  have hsz := hB.size
  refine retrow2 arrHouses Tryd.results39 (g + 1) (fun _ => 0) _ _ rfl rfl (setRow_heap _ _ _ _ _ _ H1.out) rfl ?_
  exact ⟨rfl, hg ▸ below_setRow hB (by omega) _⟩
set_option maxHeartbeats 1000000 in
theorem Of_ok (F : Nat → Nat) (hF : ∀ i, i < 16 → F i < 16) (hw : wl F 16 = []) (w : World) (L : Laid w) :
    Calls Tryd.prog 39 #[.agg (irow 16 (cst F))] w fun e w' => e = .returned (.tuple #[.agg (irow 12 (cst F)), .int .i64 0]) ∧ Below w.heap.size w w' := by
  have HW := hid (fun W (hW : Below w.heap.size w W) => Wrong_yes F hF W (L.below hW))
  rw [hw] at HW
  obtain ⟨h0, h1, hB⟩ := of_start (cst F) w
  have H0 := hid h0
  have H1 := hid h1
  clear hF h0 h1 L hw
  obtain ⟨g, hg⟩ : ∃ g, w.heap.size = g := ⟨_, rfl⟩
  go_enter Tryd.func39, Tryd.ntmps39
  go_wp2_with fail
  simp only [zeros12]
  generalize (w.alloc (.cells (irow 16 (cst F)) 88)).alloc (.cells (irow 12 fun _ => 0) 24) = w1 at *
  rw [hg] at H0 H1 hB HW
  have harr : ∀ w' : World, (Instr.arrayAt 24 (.slice (some ⟨g, 0, none⟩) 12 16)).run Tryd.prog w' = .ok (.pointer (some ⟨g, 0, none⟩)) w' := arr12_at g
  go_wp2_with (first
    | (refine ldrow arrShield _ rfl rfl _ rfl _ _ H0.out ?_)
    | (refine strow arrHouses _ _ rfl rfl _ (cst F) rfl rfl _ _ H1.out ?_)
    | (go_at_call 63; refine (HW.out _ hB).mono ?_; rintro e w2 ⟨v, rfl, hI, hb⟩; obtain ⟨p, c, rfl⟩ := row_form hI; have hsz := hB.size; have H1 := hid (heap_below hb H1.out (heap_lt H1.out)); have h0 := heap_below hb H0.out (heap_lt H0.out); have hB := hB.trans (hb.mono (by omega)); clear hI;
        have c0 := cell_irow h0 0 (by omega); have c1 := cell_irow h0 1 (by omega); have c2 := cell_irow h0 2 (by omega); have c3 := cell_irow h0 3 (by omega); have c4 := cell_irow h0 4 (by omega); have c5 := cell_irow h0 5 (by omega);
        have c6 := cell_irow h0 6 (by omega); have c7 := cell_irow h0 7 (by omega); have c8 := cell_irow h0 8 (by omega); have c9 := cell_irow h0 9 (by omega); have cA := cell_irow h0 10 (by omega); have cB := cell_irow h0 11 (by omega); clear h0))
  have hsz := hB.size
  refine retrow2 arrHouses Tryd.results39 (g + 1) (cst F) _ _ rfl rfl (setRow_heap _ _ _ _ _ _ H1.out) rfl ?_
  exact ⟨rfl, hg ▸ below_setRow hB (by omega) _⟩
end Go.Proofs.YtcdbkgpgjjeoiaaDoor
