/- Rows of ints in memory: copying, loading, storing whole. -/
import Derived.Test.YtphnibllfpkkkaaDoorBase
import Derived.Laws.CopyOwn
import Derived.Deep.MidRow
namespace Go.Proofs.YtphnibllfpkkkaaDoor
open Go Go.RowKit
set_option maxRecDepth 100000

theorem zeros16 : (#[.int .i64 0, .int .i64 0, .int .i64 0, .int .i64 0, .int .i64 0, .int .i64 0, .int .i64 0, .int .i64 0, .int .i64 0, .int .i64 0, .int .i64 0, .int .i64 0, .int .i64 0, .int .i64 0, .int .i64 0, .int .i64 0] : Array Value) = irow 16 (fun _ => 0) := rfl
def over (m : Nat) (T S : Nat → Int) : Nat → Int := fun i => if i < m then T i else S i
theorem irow_toList (n : Nat) (S : Nat → Int) (j : Nat) : (irow n S).toList[j]? = if j < n then some (.int .i64 (S j)) else none := by
  rw [Array.getElem?_toList]
  split
  · exact irow_get n S j ‹_›
  · simp; omega
theorem irow_one (n : Nat) (S : Nat → Int) : ∀ v ∈ (irow n S).toList, v.oneCell' = true := fun v hv => by
  obtain ⟨i, hi, rfl⟩ := List.getElem_of_mem hv
  simp at hi ⊢
  rfl
theorem irow_all (n : Nat) (S : Nat → Int) : (irow n S).all (·.oneCell') = true := by
  rw [Array.all_eq_true_iff_forall_mem]; intro v hv; exact irow_one n S v (by simpa using hv)
theorem copy_irow {P : Program} (W : World) (dT sT ty e : TypeId) (gd gs n m cd cs : Nat) (S T : Nat → Int) (td ts : TypeId) (hu : P.underlying dT = some (.slice e)) (hs : (P.info? e).map (·.size) = some 1)
    (hgd : W.heap[gd]? = some (.cells (irow n S) td (0, 0))) (hgs : W.heap[gs]? = some (.cells (irow m T) ts (0, 0))) (hm : m ≤ n) :
    (Builtin.copy_ #[dT, sT] ty #[.slice (some ⟨gd, 0, none⟩) n cd, .slice (some ⟨gs, 0, none⟩) m cs]).run P W = .ok (.int .i64 m) (W.setRow gd (irow n (over m T S))) := by
  rw [run_copy_row P W dT sT ty e gd 0 n cd ⟨gs, 0, none⟩ m cs (irow n S) td (irow m T).toList hu hs hgd (by show _ = min m n; rw [Nat.min_eq_left hm]; simp) (fun j v hv => by
    have hadd : (⟨gs, 0, none⟩ : Addr).add j = ⟨gs, j, none⟩ := by unfold Addr.add; split <;> simp_all
    rw [hadd, cell_of_row _ _ j _ _ (0, 0) hgs]
    simpa using hv) (by simp; omega) (irow_one m T)]
  congr 1
  · simp [goInt]
  · congr 1
    apply Array.ext_getElem?
    intro i
    rw [← Array.getElem?_toList]
    simp only [List.take_zero, List.nil_append, Nat.zero_add]
    rw [List.getElem?_append]
    simp only [Array.length_toList, irow_size]
    by_cases h : i < m
    · rw [if_pos h, irow_toList, if_pos h, irow_get _ _ _ (by omega)]; simp [over, h]
    · rw [if_neg h, List.getElem?_drop, irow_toList]
      have e : m + (i - m) = i := by omega
      rw [e]
      by_cases h2 : i < n
      · rw [if_pos h2, irow_get _ _ _ h2]; simp [over, h]
      · rw [if_neg h2, Array.getElem?_eq_none (by simp; omega)]
/-- Cells of a row of ints. -/
theorem cell_irow {w : World} {g n : Nat} {S : Nat → Int} {t : TypeId} (hg : w.heap[g]? = some (.cells (irow n S) t (0, 0))) (i : Nat) (hi : i < n) : w.cell? ⟨g, i, none⟩ = some (.int .i64 (S i)) := by
  rw [cell_of_row _ _ i _ _ (0, 0) hg, irow_get _ _ _ hi]
theorem heap_below {B : Nat} {w w' : World} (h : Below B w w') {g : Nat} {o : Obj} (hg : w.heap[g]? = some o) (hB : g < B) : w'.heap[g]? = some o := (h.block g hB).trans hg
theorem heap_lt {w : World} {g : Nat} {o : Obj} (hg : w.heap[g]? = some o) : g < w.heap.size := (Array.getElem?_eq_some_iff.1 hg).1
theorem set_irow {w : World} {g n : Nat} {S : Nat → Int} {t : TypeId} (hg : w.heap[g]? = some (.cells (irow n S) t (0, 0))) (j : Nat) (v : Int) : (w.setCell ⟨g, j, none⟩ (.int .i64 v)).heap[g]? = some (.cells (irow n (upd S j v)) t (0, 0)) := by
  rw [heap_setCell_same w g j _ t _ hg, irow_set]

/-- An element of a row by value. -/
theorem run_index_irow {P : Program} {T n e : Nat} (hu : P.underlying T = some (.array n e)) (hi : (P.info? e).map (·.size) = some 1) (ha : ∀ w, (isAgg e).run P w = .ok false w) (S : Nat → Int) (k : Nat) (hk : k < n) (w : World) :
    (Instr.index T (.agg (irow n S)) (.int .i64 (k : Nat))).run P w = .ok (.int .i64 (S k)) w := by
  cases hq : P.info? e with
  | none => simp [hq] at hi
  | some i =>
    have hs : i.size = 1 := by simpa [hq] using hi
    have h0 : (0 : Int) ≤ k ∧ (k : Int) < (n : Nat) := ⟨by omega, by omega⟩
    simp [Instr.index, asIntOf, run_underlying hu, h0, sizeOf, typeInfo, hq, hs, part, ha, irow_get n S k hk, show ¬ n ≤ k by omega]
/-- An array type of n cells. -/
structure ArrT (P : Program) (T n : Nat) : Prop where
  und : ∃ m e, P.underlying T = some (.array m e)
  siz : (P.info? T).map (·.size) = some n
theorem ldrow {P : Program} {T n : Nat} (hT : ArrT P T n) {ops : Array Oper} {rest : List Oper} {o : Oper} {a : Act} {w : World} {Q : Exit → Act → World → Prop} (x : Operand) (hgd : o.guard = none) (ho : o.op = .load T x)
    (g : Nat) (hx : a.eval x = .pointer (some ⟨g, 0, none⟩)) (S : Nat → Int) (t : TypeId) (hg : w.heap[g]? = some (.cells (irow n S) t (0, 0)))
    (h : wpList P ops Q rest (a.put o.dst (.agg (irow n S))) w) : wpList P ops Q (o :: rest) a w := by
  obtain ⟨m, e, hu⟩ := hT.und
  exact wpList_load_row hgd T x ho g hx t _ (0, 0) _ hg hu rfl (by rw [irow_size]; exact hT.siz) h
theorem strow {P : Program} {T n : Nat} (hT : ArrT P T n) {ops : Array Oper} {rest : List Oper} {o : Oper} {a : Act} {w : World} {Q : Exit → Act → World → Prop} (x y : Operand) (hgd : o.guard = none) (ho : o.op = .store T x y)
    (g : Nat) (V : Nat → Int) (hx : a.eval x = .pointer (some ⟨g, 0, none⟩)) (hy : a.eval y = .agg (irow n V)) (S : Nat → Int) (t : TypeId) (hg : w.heap[g]? = some (.cells (irow n S) t (0, 0)))
    (h : wpList P ops Q rest (a.put o.dst undef) (w.setRow g (irow n V))) : wpList P ops Q (o :: rest) a w :=
  wpList_store_row hgd T x y ho g _ hx hy t _ hg (by rw [irow_size]; exact hT.siz) (by simp) (irow_all _ _) h
theorem run_loadVar_irow {P : Program} {T n : Nat} (hT : ArrT P T n) {w : World} {g : Nat} {S : Nat → Int} {t : TypeId} (hg : w.heap[g]? = some (.cells (irow n S) t (0, 0))) :
    (loadVar T ⟨g, 0, none⟩).run P w = .ok (.agg (irow n S)) w := by
  obtain ⟨m, e, hu⟩ := hT.und
  exact run_loadVar_row w g t T _ (0, 0) _ hg hu rfl (by rw [irow_size]; exact hT.siz)
/-- One result, a row. -/
theorem retrow {P : Program} {T n : Nat} (hT : ArrT P T n) {fn : Func} {p : Tmp} (h : fn.results = #[.cell p T]) {a : Act} {w : World} {R : Ending → World → Prop} (g : Nat) (S : Nat → Int) (t : TypeId)
    (hp : a.tmps.getD p undef = .pointer (some ⟨g, 0, none⟩)) (hg : w.heap[g]? = some (.cells (irow n S) t (0, 0))) (hd : a.defers = []) (hR : R (.returned (.agg (irow n S))) w) : bodyPost P fn R .ret a w := by
  obtain ⟨m, e, hu⟩ := hT.und
  exact bodyPost_ret (results_cell_row h _ _ g t _ (0, 0) _ hp hg hu rfl (by rw [irow_size]; exact hT.siz)) hd hR
/-- Two results, a row and a slot. -/
theorem retrow2 {P : Program} {T n : Nat} (hT : ArrT P T n) {fn : Func} {p q : Tmp} (h : fn.results = #[.cell p T, .tmp q]) {a : Act} {w : World} {R : Ending → World → Prop} (g : Nat) (S : Nat → Int) (t : TypeId) (v : Value)
    (hp : a.tmps.getD p undef = .pointer (some ⟨g, 0, none⟩)) (hv : a.tmps.getD q undef = v) (hg : w.heap[g]? = some (.cells (irow n S) t (0, 0))) (hd : a.defers = []) (hR : R (.returned (.tuple #[.agg (irow n S), v])) w) : bodyPost P fn R .ret a w := by
  refine bodyPost_ret (v := .tuple #[.agg (irow n S), v]) ?_ hd hR
  have hl := run_loadVar_irow hT hg
  have hp' : a.tmps[p]?.getD undef = .pointer (some ⟨g, 0, none⟩) := by simpa using hp
  have hv' : a.tmps[q]?.getD undef = v := by simpa using hv
  simp [results, h, hp', hv', asAddr, hl]
theorem arrShield : ArrT Tryd.prog 24 16 := ⟨⟨_, _, Tryd.underlying24⟩, by kernel_rfl⟩
theorem arrMothers : ArrT Tryd.prog 37 4 := ⟨⟨_, _, Tryd.underlying37⟩, by kernel_rfl⟩
theorem arrFour : ArrT Tryd.prog 54 4 := ⟨⟨_, _, Tryd.underlying54⟩, by kernel_rfl⟩
theorem idxMothers (S : Nat → Int) (k : Nat) (hk : k < 4) (w : World) : (Instr.index 37 (.agg (irow 4 S)) (.int .i64 (k : Nat))).run Tryd.prog w = .ok (.int .i64 (S k)) w := run_index_irow Tryd.underlying37 (by kernel_rfl) (fun _ => by kernel_rfl) S k hk w
theorem idxFour (S : Nat → Int) (k : Nat) (hk : k < 4) (w : World) : (Instr.index 54 (.agg (irow 4 S)) (.int .i64 (k : Nat))).run Tryd.prog w = .ok (.int .i64 (S k)) w := run_index_irow Tryd.underlying54 (by kernel_rfl) (fun _ => by kernel_rfl) S k hk w
theorem idxShield (S : Nat → Int) (k : Nat) (hk : k < 16) (w : World) : (Instr.index 24 (.agg (irow 16 S)) (.int .i64 (k : Nat))).run Tryd.prog w = .ok (.int .i64 (S k)) w := run_index_irow Tryd.underlying24 (by kernel_rfl) (fun _ => by kernel_rfl) S k hk w
theorem zeros4 : (#[.int .i64 0, .int .i64 0, .int .i64 0, .int .i64 0] : Array Value) = irow 4 (fun _ => 0) := rfl

theorem range_irow {w : World} {g n : Nat} {S : Nat → Int} {t : TypeId} (hg : w.heap[g]? = some (.cells (irow n S) t (0, 0))) : w.rangeAt g 0 (irow n S).toList := by
  intro j v hv
  rw [Nat.zero_add, cell_of_row _ _ j _ _ (0, 0) hg]
  simpa using hv

/-- A row of naturals. -/
def cst (F : Nat → Nat) : Nat → Int := fun i => (F i : Nat)
@[go_sem, simp] theorem cst_app (F : Nat → Nat) (i : Nat) : cst F i = ((F i : Nat) : Int) := rfl
def upN (F : Nat → Nat) (j v : Nat) : Nat → Nat := fun i => if i = j then v else F i
def overN (m : Nat) (T S : Nat → Nat) : Nat → Nat := fun i => if i < m then T i else S i
theorem upd_cst (F : Nat → Nat) (j v : Nat) : upd (cst F) j (v : Nat) = cst (upN F j v) := by
  funext i; simp only [upd, cst, upN]; split <;> rfl
theorem over_cst (m : Nat) (T S : Nat → Nat) : over m (cst T) (cst S) = cst (overN m T S) := by
  funext i; simp only [over, cst, overN]; split <;> rfl
end Go.Proofs.YtphnibllfpkkkaaDoor
