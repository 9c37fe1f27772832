/- Walk of the reference: Names. -/
import Derived.Test.YtphnibllfpkkkaaDoorR1
namespace Go.Proofs.YtphnibllfpkkkaaDoor
open Go Go.RowKit
set_option maxRecDepth 100000

def namRow : Array Value := (namT.map fun s => Value.string ⟨s.toArray⟩).toArray
theorem namRow_at (i : Nat) (hi : i < 16) : namRow[i]? = some (.string (nam i)) := by
  have : i = 0 ∨ i = 1 ∨ i = 2 ∨ i = 3 ∨ i = 4 ∨ i = 5 ∨ i = 6 ∨ i = 7 ∨ i = 8 ∨ i = 9 ∨ i = 10 ∨ i = 11 ∨ i = 12 ∨ i = 13 ∨ i = 14 ∨ i = 15 := by omega
  rcases this with rfl | rfl | rfl | rfl | rfl | rfl | rfl | rfl | rfl | rfl | rfl | rfl | rfl | rfl | rfl | rfl <;> rfl

set_option maxHeartbeats 400000 in
theorem rNames (w : World) : Calls Tryd.prog 34 #[] w fun e w' => e = .returned (.slice (some ⟨w.heap.size, 0, none⟩) 16 16) ∧ (∀ i, i < 16 → w'.cell? ⟨w.heap.size, i, none⟩ = some (.string (nam i))) ∧ Below w.heap.size w w' := by
  go_enter Tryd.func34, Tryd.ntmps34
  go_wp2
  go_ret
  refine ⟨rfl, fun i hi => ?_, (Below.refl _ _).alloc (Nat.le_refl _) _⟩
  exact (cell_of_row _ _ i _ _ (0, 0) (heap_alloc_new w (.cells namRow 9))).trans (namRow_at i hi)
end Go.Proofs.YtphnibllfpkkkaaDoor
