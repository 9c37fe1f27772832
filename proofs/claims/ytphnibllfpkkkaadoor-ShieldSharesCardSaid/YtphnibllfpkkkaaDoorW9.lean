/- The example chart; ref.Way. -/
import Derived.Test.YtphnibllfpkkkaaDoorW6
import Derived.Test.YtphnibllfpkkkaaDoorR5
namespace Go.Proofs.YtphnibllfpkkkaaDoor
open Go Go.RowKit
set_option maxRecDepth 100000

/-- The chart of the document's second example. -/
def loneF : Nat → Nat := fun i => [15, 0, 0, 0, 1, 1, 1, 1, 15, 0, 0, 0, 15, 0, 15, 0].getD i 0
theorem lone_lit : (#[.int .i64 15, .int .i64 0, .int .i64 0, .int .i64 0, .int .i64 1, .int .i64 1, .int .i64 1, .int .i64 1, .int .i64 15, .int .i64 0, .int .i64 0, .int .i64 0, .int .i64 15, .int .i64 0, .int .i64 15, .int .i64 0] : Array Value) = irow 16 (cst loneF) := rfl
theorem lone_lt : ∀ i, i < 16 → loneF i < 16 := fun i hi => by
  have : ∀ i : Fin 16, loneF i < 16 := by decide
  exact this ⟨i, hi⟩

set_option maxHeartbeats 400000 in
theorem lone_c (w : World) : Calls Tryd.prog 53 #[] w fun e w' => e = .returned (.agg (irow 16 (cst loneF))) ∧ Below w.heap.size w w' := by
  go_enter Tryd.func53, Tryd.ntmps53
  go_wp2_with fail
  rw [lone_lit]
  exact retrow arrShield Tryd.results53 w.heap.size _ _ rfl (heap_alloc_new w _) rfl ⟨rfl, (Below.refl _ _).alloc (Nat.le_refl _) _⟩
end Go.Proofs.YtphnibllfpkkkaaDoor
