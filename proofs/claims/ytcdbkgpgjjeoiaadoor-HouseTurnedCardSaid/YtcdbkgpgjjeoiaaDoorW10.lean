/- Way. -/
import Derived.Test.YtcdbkgpgjjeoiaaDoorW6
import Derived.Test.YtcdbkgpgjjeoiaaDoorEq
import Derived.Deep.RegionHeld3
import Derived.Test.YtcdbkgpgjjeoiaaDoorR5
import Derived.Test.YtcdbkgpgjjeoiaaDoorW4
import Derived.Deep.DeepMust
namespace Go.Proofs.YtcdbkgpgjjeoiaaDoor
open Go Go.RowKit
set_option maxRecDepth 100000

def nilInts : Value := .slice none 0 0

theorem irow4 (M : Nat → Nat) : irow 4 (cst M) = #[.int .i64 ((M 0 : Nat) : Int), .int .i64 ((M 1 : Nat) : Int), .int .i64 ((M 2 : Nat) : Int), .int .i64 ((M 3 : Nat) : Int)] := rfl
theorem arr_at (g : Nat) (w : World) : (Instr.arrayAt 98 (.slice (some ⟨g, 0, none⟩) 4 16)).run Tryd.prog w = .ok (.pointer (some ⟨g, 0, none⟩)) w := by kernel_rfl
/-- The copy is a chart. -/
def Chart (F : Nat → Nat) : Prop := ∀ i, i < 16 → der F i = F i

end Go.Proofs.YtcdbkgpgjjeoiaaDoor
/- Way: the way. -/
namespace Go.Proofs.YtcdbkgpgjjeoiaaDoor
open Go Go.RowKit
set_option maxRecDepth 100000

@[simp] theorem size_drewN (w : World) (n : Nat) : (w.drewN n).heap.size = w.heap.size := rfl
theorem one_cell (W : World) (g : Nat) (h : g = W.heap.size) (v : Value) (t : TypeId) : (W.alloc (.cells #[v] t)).cell? ⟨g, 0, none⟩ = some v := by subst h; simp
theorem own_ne {w : World} {B : Nat} {v : Value} {xs : List Int} (h : Ints w B v xs) {g : Nat} {cs : Array Value} {t : TypeId} (hg : w.heap[g]? = some (.cells cs t (0, 0))) (ht : t ≠ 3) : some g ≠ v.ownBlock := by
  rcases h.2 with ⟨rfl, _⟩ | ⟨g', cap, cur, rfl, _, hgb, _⟩
  · simp [Value.ownBlock]
  · intro e
    obtain rfl : g = g' := by simpa [Value.ownBlock] using e
    rw [hg] at hgb
    simp at hgb
    exact ht hgb.2
/-- What the loop of Way keeps across an append: all at once. -/
theorem way_keep {w wr W : World} {v : Value} {F : Nat → Nat} {l g at' : Nat} {xs : List Int} {a b : Int} (hi : Ints wr (w.heap.size + 2) v xs)
    (hg : wr.heap[w.heap.size]? = some (.cells (irow 16 (cst F)) 88 (0, 0))) (hl : wr.heap[w.heap.size + 1]? = some (.cells #[.int .i64 (l : Nat)] 3 (0, 0))) (hb : Below w.heap.size w wr)
    (hW : ∀ x : Nat, x < wr.heap.size → x ≠ g → W.heap[x]? = wr.heap[x]?) (hgB : w.heap.size + 2 ≤ g) (hWs : wr.heap.size ≤ W.heap.size) (hos : W.os = wr.os) (htp : W.tape = wr.tape) (hou : W.output = wr.output)
    (hgo : some g ≠ v.ownBlock) (hpair : W.heap[g]? = some (.cells #[.int .i64 a, .int .i64 b] 77 (0, 0))) :
    Ints (W.alloc (.cells #[.int .i64 (at' : Nat)] 3)) (w.heap.size + 2) v xs ∧ (∀ w', W.heap.size ≤ w'.heap.size → (W.alloc (.cells #[.int .i64 (at' : Nat)] 3)).grownBy w' v.ownBlock →
      w'.heap[w.heap.size]? = some (.cells (irow 16 (cst F)) 88 (0, 0)) ∧ w'.heap[w.heap.size + 1]? = some (.cells #[.int .i64 (l : Nat)] 3 (0, 0)) ∧ Below w.heap.size w w' ∧ w'.heap[g]? = some (.cells #[.int .i64 a, .int .i64 b] 77 (0, 0))) := by
  have hgl := heap_lt hg
  have hll := heap_lt hl
  have hgW := heap_lt hpair
  have hi2 : Ints W (w.heap.size + 2) v xs := by
    refine ⟨hi.1, ?_⟩
    rcases hi.2 with h2 | ⟨g', cap, cur, h3, h4, h5, h6⟩
    · exact .inl h2
    · exact .inr ⟨g', cap, cur, h3, h4, (hW g' (heap_lt h5) (fun e => hgo (by rw [h3, ← e]; rfl))).trans h5, h6⟩
  have hi3 : Ints (W.alloc (.cells #[.int .i64 (at' : Nat)] 3)) (w.heap.size + 2) v xs := hi2.below ((Below.refl _ _).alloc (Nat.le_refl _) _)
  refine ⟨hi3, fun w' _ hgr => ?_⟩
  have hb2 : Below w.heap.size w W := hb.trans ⟨hos, htp, hou, hWs, fun k hk => hW k (by omega) (by omega)⟩
  have p1 : (W.alloc (.cells #[.int .i64 (at' : Nat)] 3)).heap[w.heap.size]? = some (.cells (irow 16 (cst F)) 88 (0, 0)) := by rw [Below.heap_alloc _ _ _ (by omega), hW _ hgl (by omega)]; exact hg
  have p2 : (W.alloc (.cells #[.int .i64 (at' : Nat)] 3)).heap[w.heap.size + 1]? = some (.cells #[.int .i64 (l : Nat)] 3 (0, 0)) := by rw [Below.heap_alloc _ _ _ (by omega), hW _ hll (by omega)]; exact hl
  have p3 : (W.alloc (.cells #[.int .i64 (at' : Nat)] 3)).heap[g]? = some (.cells #[.int .i64 a, .int .i64 b] 77 (0, 0)) := by rw [Below.heap_alloc _ _ _ hgW]; exact hpair
  refine ⟨grown_heap hgr hi3 p1 (by omega), grown_heap hgr hi3 p2 (by omega), grown_below (hb2.alloc hb2.size _) hgr hi3 (by omega) (by simp; omega), ?_⟩
  exact (hgr.block g (by simp; omega) (own_ne hi3 p3 (by decide))).trans p3
theorem pa_dn (k : Nat) (h8 : 8 ≤ k) (h16 : k < 16) : pa k < k ∧ pb k < k := by
  have : k = 8 ∨ k = 9 ∨ k = 10 ∨ k = 11 ∨ k = 12 ∨ k = 13 ∨ k = 14 ∨ k = 15 := by omega
  rcases this with rfl | rfl | rfl | rfl | rfl | rfl | rfl | rfl <;> decide
theorem par_pa (k : Nat) : par (k * 2) = ((pa k : Nat) : Int) := by have := par_bd (k * 2); unfold pa; omega
theorem par_pb (k : Nat) : par (k * 2 + 1) = ((pb k : Nat) : Int) := by have := par_bd (k * 2 + 1); unfold pb; omega

end Go.Proofs.YtcdbkgpgjjeoiaaDoor
/- The example chart; ref.Way. -/
namespace Go.Proofs.YtcdbkgpgjjeoiaaDoor
open Go Go.RowKit
set_option maxRecDepth 100000

/-- The chart of the document's second example. -/
def loneF : Nat → Nat := fun i => [15, 0, 0, 0, 1, 1, 1, 1, 15, 0, 0, 0, 15, 0, 15, 0].getD i 0
theorem lone_lit : (#[.int .i64 15, .int .i64 0, .int .i64 0, .int .i64 0, .int .i64 1, .int .i64 1, .int .i64 1, .int .i64 1, .int .i64 15, .int .i64 0, .int .i64 0, .int .i64 0, .int .i64 15, .int .i64 0, .int .i64 15, .int .i64 0] : Array Value) = irow 16 (cst loneF) := rfl
theorem lone_lt : ∀ i, i < 16 → loneF i < 16 := fun i hi => by
  have : ∀ i : Fin 16, loneF i < 16 := by decide
  exact this ⟨i, hi⟩

end Go.Proofs.YtcdbkgpgjjeoiaaDoor
/- known: the examples. -/
namespace Go.Proofs.YtcdbkgpgjjeoiaaDoor
open Go Go.RowKit
set_option maxRecDepth 100000

def viaM : Nat → Nat := fun i => if i = 0 then 15 else 0
theorem via_lit : (#[.int .i64 15, .int .i64 0, .int .i64 0, .int .i64 0] : Array Value) = irow 4 (cst viaM) := rfl
theorem der_via : irow 16 (cst (der viaM)) = irow 16 (cst loneF) := irow_congr fun i hi => by
  have : ∀ i : Fin 16, der viaM i = loneF i := by decide
  simp only [cst]; rw [this ⟨i, hi⟩]
theorem lone_chart : Chart loneF := fun i hi => by
  have : ∀ i : Fin 16, der loneF i = loneF i := by decide
  exact this ⟨i, hi⟩
theorem lone_bit : bitB (loneF 14) 0 = true := by decide
theorem lone_way : wlist loneF 0 3 = [14, 12, 8, 0] := by decide
/-- The chart with the judge changed. -/
def badF : Nat → Nat := fun i => if i = 14 then 11 else loneF i
theorem bad_lt : ∀ i, i < 16 → badF i < 16 := fun i hi => by
  have : ∀ i : Fin 16, badF i < 16 := by decide
  exact this ⟨i, hi⟩
theorem bad_wl : wl badF 16 = [14, 15] := by decide
theorem nam12 : nam 12 = ⟨#[102, 111, 114, 116, 117, 110, 97, 32, 109, 97, 106, 111, 114]⟩ := rfl

theorem reads4 (W : World) (a b c d : Int) : Reads (W.alloc (.cells #[.int .i64 a, .int .i64 b, .int .i64 c, .int .i64 d] 3)) (.slice (some ⟨W.heap.size, 0, none⟩) 4 4) [a, b, c, d] := by
  refine .inr ⟨W.heap.size, 0, 4, rfl, by simp, fun k hk => ?_⟩
  have hk4 : k < 4 := hk
  rw [Nat.zero_add, cell_of_row _ _ k _ _ (0, 0) (heap_alloc_new W _)]
  have : k = 0 ∨ k = 1 ∨ k = 2 ∨ k = 3 := by omega
  rcases this with rfl | rfl | rfl | rfl <;> rfl
theorem reads2 (W : World) (a b : Int) : Reads (W.alloc (.cells #[.int .i64 a, .int .i64 b] 3)) (.slice (some ⟨W.heap.size, 0, none⟩) 2 2) [a, b] := by
  refine .inr ⟨W.heap.size, 0, 2, rfl, by simp, fun k hk => ?_⟩
  have hk4 : k < 2 := hk
  rw [Nat.zero_add, cell_of_row _ _ k _ _ (0, 0) (heap_alloc_new W _)]
  have : k = 0 ∨ k = 1 := by omega
  rcases this with rfl | rfl <;> rfl

theorem bad_row {w : World} {g : Nat} {t : TypeId} (hg : w.heap[g]? = some (.cells (irow 16 (cst loneF)) t (0, 0))) : (w.setCell ⟨g, 14, none⟩ (.int .i64 11)).heap[g]? = some (.cells (irow 16 (cst badF)) t (0, 0)) := by
  rw [set_irow hg]
  refine congrArg some (congrArg (fun c => Obj.cells c t (0, 0)) (irow_congr fun i hi => ?_))
  by_cases h : i = 14
  · subst h; rfl
  · simp [upd, cst, badF, h]

end Go.Proofs.YtcdbkgpgjjeoiaaDoor
