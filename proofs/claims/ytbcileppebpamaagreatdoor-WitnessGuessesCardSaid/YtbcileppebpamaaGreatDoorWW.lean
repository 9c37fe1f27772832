/- Walk of law 11: WitnessMissing. -/
import Derived.Test.YtbcileppebpamaaGreatDoorWV
set_option linter.unusedSimpArgs false
set_option linter.unusedVariables false
namespace Go.Proofs.YtbcileppebpamaaGreatDoor
open Go Go.RowKit Go.Shelf
set_option maxRecDepth 100000

theorem cell_lt {W : World} {g k : Nat} {v : Value} (h : W.cell? ⟨g, k, none⟩ = some v) : g < W.heap.size := by
  rcases Nat.lt_or_ge g W.heap.size with hg | hg
  · exact hg
  · simp [World.cell?, Array.getElem?_eq_none hg] at h
theorem exec_bs0 {ev : Operand → Value} {o : Oper} {W : World} (ho : o.op = .buildSlice 72 0 #[]) : (execOp ev o).run Tryz.prog W = .ok (.value (.slice (some ⟨W.heap.size, 0, none⟩) 0 0)) (W.alloc (.cells #[] 3)) := by
  simp [execOp, ho]
  go_simp
theorem exec_ms {ev : Operand → Value} {o : Oper} {x : Operand} {n : Nat} {W : World} (ho : o.op = .makeSlice 72 x x) (hx : ev x = .int .i64 ((n : Nat) : Int)) (hn : n ≤ 100000) : (execOp ev o).run Tryz.prog W = .ok (.value (.slice (some ⟨W.heap.size, 0, none⟩) n n)) (W.alloc (.cells (irow n fun _ => 0) 3)) := by
  simp [execOp, ho, hx, mk_ints W n hn]
def D4M (n B : Nat) : Nat → Value → World → Prop
  | 0, v, _ => ∃ k, v = .slice (some ⟨k, 0, none⟩) 0 0
  | 1, v, _ => v = .int .i64 ((n : Nat) : Int)
  | 2, v, W => ∃ s, B ≤ s ∧ v = .slice (some ⟨s, 0, none⟩) n n ∧ W.heap[s]? = some (.cells (irow n fun _ => 0) 3 (0, 0))
  | 3, v, _ => ∃ k, v = .slice (some ⟨k, 0, none⟩) 0 0
  | _, _, _ => True
theorem D4M.mono {n B : Nat} : ∀ j v w w', Below w.heap.size w w' → D4M n B j v w → D4M n B j v w'
  | 0, _, _, _, _, h => h
  | 1, _, _, _, _, h => h
  | 2, _, _, _, hb, ⟨s, h1, h2, h3⟩ => ⟨s, h1, h2, heap_below hb h3 (heap_lt h3)⟩
  | 3, _, _, _, _, h => h
  | _ + 4, _, _, _, _, _ => trivial
end Go.Proofs.YtbcileppebpamaaGreatDoor
