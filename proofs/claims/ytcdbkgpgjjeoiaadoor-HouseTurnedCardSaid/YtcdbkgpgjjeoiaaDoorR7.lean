/- Walk of the reference: Way. -/
import Derived.Test.YtcdbkgpgjjeoiaaDoorR5
import Derived.Test.YtcdbkgpgjjeoiaaDoorW10
import Derived.Test.YtcdbkgpgjjeoiaaDoorR4
namespace Go.Proofs.YtcdbkgpgjjeoiaaDoor
open Go Go.RowKit
set_option maxRecDepth 100000

theorem ln_bit (f l : Nat) : ((ln f l : Nat) : Int) = if bitB f l then 1 else 2 := by
  have := Nat.mod_lt (f / 2 ^ l) (show 0 < 2 by omega)
  unfold ln bitB
  by_cases h : f / 2 ^ l % 2 = 1
  · simp [h]
  · have : f / 2 ^ l % 2 = 0 := by omega
    simp [this]
/-- What the reference's Way gives: nothing, or the four places. -/
def rwayL (F : Nat → Nat) (l : Nat) : List Int := if bitB (F 14) l then wlist F l 3 else []

theorem rkeep {w W : World} {v : Value} {F : Nat → Nat} {at' : Nat} {xs : List Int} (hi : Ints W (w.heap.size + 1) v xs)
    (hg : W.heap[w.heap.size]? = some (.cells (irow 16 (cst F)) 88 (0, 0))) (hb : Below w.heap.size w W) :
    Ints (W.alloc (.cells #[.int .i64 (at' : Nat)] 3)) (w.heap.size + 1) v xs ∧ (∀ w', (W.alloc (.cells #[.int .i64 (at' : Nat)] 3)).grownBy w' v.ownBlock →
      w'.heap[w.heap.size]? = some (.cells (irow 16 (cst F)) 88 (0, 0)) ∧ Below w.heap.size w w') := by
  have hgl := heap_lt hg
  have hi3 : Ints (W.alloc (.cells #[.int .i64 (at' : Nat)] 3)) (w.heap.size + 1) v xs := hi.below ((Below.refl _ _).alloc (Nat.le_refl _) _)
  refine ⟨hi3, fun w' hgr => ?_⟩
  have p1 : (W.alloc (.cells #[.int .i64 (at' : Nat)] 3)).heap[w.heap.size]? = some (.cells (irow 16 (cst F)) 88 (0, 0)) := by rw [Below.heap_alloc _ _ _ hgl]; exact hg
  exact ⟨grown_heap hgr hi3 p1 (by omega), grown_below (hb.alloc hb.size _) hgr hi3 (by omega) (by simp; omega)⟩

end Go.Proofs.YtcdbkgpgjjeoiaaDoor
/- Walk of the reference: Names. -/
namespace Go.Proofs.YtcdbkgpgjjeoiaaDoor
open Go Go.RowKit
set_option maxRecDepth 100000

def namRow : Array Value := (namT.map fun s => Value.string ⟨s.toArray⟩).toArray
theorem namRow_at (i : Nat) (hi : i < 16) : namRow[i]? = some (.string (nam i)) := by
  have : i = 0 ∨ i = 1 ∨ i = 2 ∨ i = 3 ∨ i = 4 ∨ i = 5 ∨ i = 6 ∨ i = 7 ∨ i = 8 ∨ i = 9 ∨ i = 10 ∨ i = 11 ∨ i = 12 ∨ i = 13 ∨ i = 14 ∨ i = 15 := by omega
  rcases this with rfl | rfl | rfl | rfl | rfl | rfl | rfl | rfl | rfl | rfl | rfl | rfl | rfl | rfl | rfl | rfl <;> rfl

end Go.Proofs.YtcdbkgpgjjeoiaaDoor
