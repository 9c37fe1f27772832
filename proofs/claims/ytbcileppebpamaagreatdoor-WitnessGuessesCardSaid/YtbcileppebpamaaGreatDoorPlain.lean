/- Base of the walks over chapter 3: rows of integers, figures, the tables as cells. -/
import Derived.Test.YtbcileppebpamaaGreatDoorProg
import Derived.WalkKit
import Derived.WalkLawsBesides
import Derived.BigQuiet
import Derived.Deep.LoopGhost
import Derived.Deep.RegionWith
import Derived.Laws.CopyOwn
import Derived.Deep.MidRow
set_option linter.unusedSimpArgs false
set_option linter.unusedVariables false
namespace Go.Proofs.YtbcileppebpamaaGreatDoor
open Go Go.RowKit

theorem hid {p : Prop} (h : p) : Hid p := h

/-- A row of ints. -/
def irow (n : Nat) (S : Nat → Int) : Array Value := Array.ofFn (n := n) fun i => .int .i64 (S i)
@[go_sem, simp] theorem irow_size (n : Nat) (S : Nat → Int) : (irow n S).size = n := by simp [irow]
@[go_sem] theorem irow_get (n : Nat) (S : Nat → Int) (i : Nat) (h : i < n) : (irow n S)[i]? = some (.int .i64 (S i)) := by simp [irow, h]
@[go_sem, simp] theorem irow_elem (n : Nat) (S : Nat → Int) (i : Nat) (h : i < (irow n S).size) : (irow n S)[i] = .int .i64 (S i) := by simp [irow]
theorem irow_congr {n : Nat} {S T : Nat → Int} (h : ∀ i, i < n → S i = T i) : irow n S = irow n T := by
  apply Array.ext
  · simp
  · intro i h1 h2; simp only [irow_size] at h1; rw [irow_elem, irow_elem, h i h1]
/-- One place written. -/
def upd (S : Nat → Int) (j : Nat) (v : Int) : Nat → Int := fun i => if i = j then v else S i
theorem irow_set (n : Nat) (S : Nat → Int) (j : Nat) (v : Int) : (irow n S).setIfInBounds j (.int .i64 v) = irow n (upd S j v) := by
  apply Array.ext
  · simp
  · intro i h1 h2
    simp only [Array.size_setIfInBounds, irow_size] at h1
    rw [irow_elem, Array.getElem_setIfInBounds (by simpa using h1)]
    by_cases e : j = i
    · subst e; simp [upd]
    · rw [if_neg e, irow_elem]; simp [upd, Ne.symm e]

/-- A figure. -/
def Fig (f : Int) : Prop := 0 ≤ f ∧ f ≤ 15
instance (f : Int) : Decidable (Fig f) := inferInstanceAs (Decidable (_ ∧ _))

/-- The parents' table, flat. -/
def parT : List Int := [0,0, 0,0, 0,0, 0,0, 0,0, 0,0, 0,0, 0,0, 0,1, 2,3, 4,5, 6,7, 8,9, 10,11, 12,13, 14,0]
def par (i : Nat) : Int := parT.getD i 0
theorem par_bd (i : Nat) : 0 ≤ par i ∧ par i < 16 := by
  by_cases h : i < 32
  · have : ∀ i : Fin 32, 0 ≤ par i ∧ par i < 16 := by decide
    exact this ⟨i, h⟩
  · unfold par; rw [List.getD_eq_getElem?_getD, List.getElem?_eq_none (by simp [parT]; omega)]; simp

/-- The names' table. -/
def namT : List (List UInt8) := [[112, 111, 112, 117, 108, 117, 115], [108, 97, 101, 116, 105, 116, 105, 97], [114, 117, 98, 101, 117, 115], [102, 111, 114, 116, 117, 110, 97, 32, 109, 105, 110, 111, 114], [97, 108, 98, 117, 115], [97, 109, 105, 115, 115, 105, 111], [99, 111, 110, 106, 117, 110, 99, 116, 105, 111], [99, 97, 117, 100, 97, 32, 100, 114, 97, 99, 111, 110, 105, 115], [116, 114, 105, 115, 116, 105, 116, 105, 97], [99, 97, 114, 99, 101, 114], [97, 99, 113, 117, 105, 115, 105, 116, 105, 111], [112, 117, 101, 114], [102, 111, 114, 116, 117, 110, 97, 32, 109, 97, 106, 111, 114], [112, 117, 101, 108, 108, 97], [99, 97, 112, 117, 116, 32, 100, 114, 97, 99, 111, 110, 105, 115], [118, 105, 97]]
def nam (i : Nat) : ByteArray := ⟨(namT.getD i []).toArray⟩

theorem below_drewN {B : Nat} {a w : World} (h : Below B a w) (n : Nat) : Below B a (w.drewN n) := ⟨h.os, h.tape, h.output, h.size, h.block⟩
/-- All old cells and marks read as before. -/
theorem bcell {W w1 : World} (hb : Below W.heap.size W w1) : (∀ b o, b < W.heap.size → w1.cell? ⟨b, o, none⟩ = W.cell? ⟨b, o, none⟩) ∧ (∀ b o, b < W.heap.size → w1.frozen? ⟨b, o, none⟩ = W.frozen? ⟨b, o, none⟩) :=
  ⟨fun b o h => hb.cell (p := ⟨b, o, none⟩) h, fun b o h => hb.frozen (p := ⟨b, o, none⟩) h⟩

/-- From bits of non-negative ints to bits of naturals. -/
theorem bits_nat (a : Nat) (h : a < 9223372036854775808) : (BitVec.ofInt 64 (a : Int)).toNat = a := by
  rw [BitVec.toNat_ofInt]; omega
theorem wrap_nat (a : Nat) (h : a < 9223372036854775808) : IntKind.i64.wrap (a : Int) = a := IntWalk.i64_in _ (by omega)
theorem i64_xor (a b : Nat) (ha : a < 9223372036854775808) (hb : b < 9223372036854775808) : bits .xor .i64 (a : Int) (b : Int) = ((a ^^^ b : Nat) : Int) := by
  show IntKind.i64.wrap (((BitVec.ofInt 64 (a : Int) ^^^ BitVec.ofInt 64 (b : Int)).toNat : Nat) : Int) = _
  rw [BitVec.toNat_xor, bits_nat a ha, bits_nat b hb]
  exact wrap_nat _ (Nat.xor_lt_two_pow (n := 63) ha hb)
theorem i64_and (a b : Nat) (ha : a < 9223372036854775808) (hb : b < 9223372036854775808) : bits .and .i64 (a : Int) (b : Int) = ((a &&& b : Nat) : Int) := by
  show IntKind.i64.wrap (((BitVec.ofInt 64 (a : Int) &&& BitVec.ofInt 64 (b : Int)).toNat : Nat) : Int) = _
  rw [BitVec.toNat_and, bits_nat a ha, bits_nat b hb]
  exact wrap_nat _ (Nat.lt_of_le_of_lt Nat.and_le_left ha)
theorem i64_or (a b : Nat) (ha : a < 9223372036854775808) (hb : b < 9223372036854775808) : bits .or .i64 (a : Int) (b : Int) = ((a ||| b : Nat) : Int) := by
  show IntKind.i64.wrap (((BitVec.ofInt 64 (a : Int) ||| BitVec.ofInt 64 (b : Int)).toNat : Nat) : Int) = _
  rw [BitVec.toNat_or, bits_nat a ha, bits_nat b hb]
  exact wrap_nat _ (Nat.or_lt_two_pow (n := 63) ha hb)
theorem i64_and1 (a : Nat) (ha : a < 9223372036854775808) : bits .and .i64 (a : Int) 1 = ((a % 2 : Nat) : Int) := by
  rw [show (1 : Int) = ((1 : Nat) : Int) from rfl, i64_and a 1 ha (by omega), nat_mask1]
theorem i64_and15 (a : Nat) (ha : a < 9223372036854775808) : bits .and .i64 (a : Int) 15 = ((a % 16 : Nat) : Int) := by
  rw [show (15 : Int) = ((15 : Nat) : Int) from rfl, i64_and a 15 ha (by omega), nat_mask4]
end Go.Proofs.YtbcileppebpamaaGreatDoor
/- Rows of ints in memory: copying, loading, storing whole. -/
namespace Go.Proofs.YtbcileppebpamaaGreatDoor
open Go Go.RowKit
set_option maxRecDepth 100000

theorem zeros16 : (#[.int .i64 0, .int .i64 0, .int .i64 0, .int .i64 0, .int .i64 0, .int .i64 0, .int .i64 0, .int .i64 0, .int .i64 0, .int .i64 0, .int .i64 0, .int .i64 0, .int .i64 0, .int .i64 0, .int .i64 0, .int .i64 0] : Array Value) = irow 16 (fun _ => 0) := rfl
def over (m : Nat) (T S : Nat → Int) : Nat → Int := fun i => if i < m then T i else S i
theorem irow_toList (n : Nat) (S : Nat → Int) (j : Nat) : (irow n S).toList[j]? = if j < n then some (.int .i64 (S j)) else none := by
  rw [Array.getElem?_toList]
  split
  · exact irow_get n S j ‹_›
  · simp; omega
theorem irow_one (n : Nat) (S : Nat → Int) : ∀ v ∈ (irow n S).toList, v.oneCell' = true := fun v hv => by
  obtain ⟨i, hi, rfl⟩ := List.getElem_of_mem hv
  simp at hi ⊢
  rfl
theorem irow_all (n : Nat) (S : Nat → Int) : (irow n S).all (·.oneCell') = true := by
  rw [Array.all_eq_true_iff_forall_mem]; intro v hv; exact irow_one n S v (by simpa using hv)
theorem copy_irow {P : Program} (W : World) (dT sT ty e : TypeId) (gd gs n m cd cs : Nat) (S T : Nat → Int) (td ts : TypeId) (hu : P.underlying dT = some (.slice e)) (hs : (P.info? e).map (·.size) = some 1)
    (hgd : W.heap[gd]? = some (.cells (irow n S) td (0, 0))) (hgs : W.heap[gs]? = some (.cells (irow m T) ts (0, 0))) (hm : m ≤ n) :
    (Builtin.copy_ #[dT, sT] ty #[.slice (some ⟨gd, 0, none⟩) n cd, .slice (some ⟨gs, 0, none⟩) m cs]).run P W = .ok (.int .i64 m) (W.setRow gd (irow n (over m T S))) := by
  rw [run_copy_row P W dT sT ty e gd 0 n cd ⟨gs, 0, none⟩ m cs (irow n S) td (irow m T).toList hu hs hgd (by show _ = min m n; rw [Nat.min_eq_left hm]; simp) (fun j v hv => by
    have hadd : (⟨gs, 0, none⟩ : Addr).add j = ⟨gs, j, none⟩ := by unfold Addr.add; split <;> simp_all
    rw [hadd, cell_of_row _ _ j _ _ (0, 0) hgs]
    simpa using hv) (by simp; omega) (irow_one m T)]
  congr 1
  · simp [goInt]
  · congr 1
    apply Array.ext_getElem?
    intro i
    rw [← Array.getElem?_toList]
    simp only [List.take_zero, List.nil_append, Nat.zero_add]
    rw [List.getElem?_append]
    simp only [Array.length_toList, irow_size]
    by_cases h : i < m
    · rw [if_pos h, irow_toList, if_pos h, irow_get _ _ _ (by omega)]; simp [over, h]
    · rw [if_neg h, List.getElem?_drop, irow_toList]
      have e : m + (i - m) = i := by omega
      rw [e]
      by_cases h2 : i < n
      · rw [if_pos h2, irow_get _ _ _ h2]; simp [over, h]
      · rw [if_neg h2, Array.getElem?_eq_none (by simp; omega)]
/-- Cells of a row of ints. -/
theorem cell_irow {w : World} {g n : Nat} {S : Nat → Int} {t : TypeId} (hg : w.heap[g]? = some (.cells (irow n S) t (0, 0))) (i : Nat) (hi : i < n) : w.cell? ⟨g, i, none⟩ = some (.int .i64 (S i)) := by
  rw [cell_of_row _ _ i _ _ (0, 0) hg, irow_get _ _ _ hi]
theorem heap_below {B : Nat} {w w' : World} (h : Below B w w') {g : Nat} {o : Obj} (hg : w.heap[g]? = some o) (hB : g < B) : w'.heap[g]? = some o := (h.block g hB).trans hg
theorem heap_lt {w : World} {g : Nat} {o : Obj} (hg : w.heap[g]? = some o) : g < w.heap.size := (Array.getElem?_eq_some_iff.1 hg).1
theorem set_irow {w : World} {g n : Nat} {S : Nat → Int} {t : TypeId} (hg : w.heap[g]? = some (.cells (irow n S) t (0, 0))) (j : Nat) (v : Int) : (w.setCell ⟨g, j, none⟩ (.int .i64 v)).heap[g]? = some (.cells (irow n (upd S j v)) t (0, 0)) := by
  rw [heap_setCell_same w g j _ t _ hg, irow_set]

/-- An element of a row by value. -/
theorem run_index_irow {P : Program} {T n e : Nat} (hu : P.underlying T = some (.array n e)) (hi : (P.info? e).map (·.size) = some 1) (ha : ∀ w, (isAgg e).run P w = .ok false w) (S : Nat → Int) (k : Nat) (hk : k < n) (w : World) :
    (Instr.index T (.agg (irow n S)) (.int .i64 (k : Nat))).run P w = .ok (.int .i64 (S k)) w := by
  cases hq : P.info? e with
  | none => simp [hq] at hi
  | some i =>
    have hs : i.size = 1 := by simpa [hq] using hi
    have h0 : (0 : Int) ≤ k ∧ (k : Int) < (n : Nat) := ⟨by omega, by omega⟩
    simp [Instr.index, asIntOf, run_underlying hu, h0, sizeOf, typeInfo, hq, hs, part, ha, irow_get n S k hk, show ¬ n ≤ k by omega]
/-- An array type of n cells. -/
structure ArrT (P : Program) (T n : Nat) : Prop where
  und : ∃ m e, P.underlying T = some (.array m e)
  siz : (P.info? T).map (·.size) = some n
theorem ldrow {P : Program} {T n : Nat} (hT : ArrT P T n) {ops : Array Oper} {rest : List Oper} {o : Oper} {a : Act} {w : World} {Q : Exit → Act → World → Prop} (x : Operand) (hgd : o.guard = none) (ho : o.op = .load T x)
    (g : Nat) (hx : a.eval x = .pointer (some ⟨g, 0, none⟩)) (S : Nat → Int) (t : TypeId) (hg : w.heap[g]? = some (.cells (irow n S) t (0, 0)))
    (h : wpList P ops Q rest (a.put o.dst (.agg (irow n S))) w) : wpList P ops Q (o :: rest) a w := by
  obtain ⟨m, e, hu⟩ := hT.und
  exact wpList_load_row hgd T x ho g hx t _ (0, 0) _ hg hu rfl (by rw [irow_size]; exact hT.siz) h
theorem strow {P : Program} {T n : Nat} (hT : ArrT P T n) {ops : Array Oper} {rest : List Oper} {o : Oper} {a : Act} {w : World} {Q : Exit → Act → World → Prop} (x y : Operand) (hgd : o.guard = none) (ho : o.op = .store T x y)
    (g : Nat) (V : Nat → Int) (hx : a.eval x = .pointer (some ⟨g, 0, none⟩)) (hy : a.eval y = .agg (irow n V)) (S : Nat → Int) (t : TypeId) (hg : w.heap[g]? = some (.cells (irow n S) t (0, 0)))
    (h : wpList P ops Q rest (a.put o.dst undef) (w.setRow g (irow n V))) : wpList P ops Q (o :: rest) a w :=
  wpList_store_row hgd T x y ho g _ hx hy t _ hg (by rw [irow_size]; exact hT.siz) (by simp) (irow_all _ _) h
theorem run_loadVar_irow {P : Program} {T n : Nat} (hT : ArrT P T n) {w : World} {g : Nat} {S : Nat → Int} {t : TypeId} (hg : w.heap[g]? = some (.cells (irow n S) t (0, 0))) :
    (loadVar T ⟨g, 0, none⟩).run P w = .ok (.agg (irow n S)) w := by
  obtain ⟨m, e, hu⟩ := hT.und
  exact run_loadVar_row w g t T _ (0, 0) _ hg hu rfl (by rw [irow_size]; exact hT.siz)
/-- One result, a row. -/
theorem retrow {P : Program} {T n : Nat} (hT : ArrT P T n) {fn : Func} {p : Tmp} (h : fn.results = #[.cell p T]) {a : Act} {w : World} {R : Ending → World → Prop} (g : Nat) (S : Nat → Int) (t : TypeId)
    (hp : a.tmps.getD p undef = .pointer (some ⟨g, 0, none⟩)) (hg : w.heap[g]? = some (.cells (irow n S) t (0, 0))) (hd : a.defers = []) (hR : R (.returned (.agg (irow n S))) w) : bodyPost P fn R .ret a w := by
  obtain ⟨m, e, hu⟩ := hT.und
  exact bodyPost_ret (results_cell_row h _ _ g t _ (0, 0) _ hp hg hu rfl (by rw [irow_size]; exact hT.siz)) hd hR
/-- Two results, a row and a slot. -/
theorem retrow2 {P : Program} {T n : Nat} (hT : ArrT P T n) {fn : Func} {p q : Tmp} (h : fn.results = #[.cell p T, .tmp q]) {a : Act} {w : World} {R : Ending → World → Prop} (g : Nat) (S : Nat → Int) (t : TypeId) (v : Value)
    (hp : a.tmps.getD p undef = .pointer (some ⟨g, 0, none⟩)) (hv : a.tmps.getD q undef = v) (hg : w.heap[g]? = some (.cells (irow n S) t (0, 0))) (hd : a.defers = []) (hR : R (.returned (.tuple #[.agg (irow n S), v])) w) : bodyPost P fn R .ret a w := by
  refine bodyPost_ret (v := .tuple #[.agg (irow n S), v]) ?_ hd hR
  have hl := run_loadVar_irow hT hg
  have hp' : a.tmps[p]?.getD undef = .pointer (some ⟨g, 0, none⟩) := by simpa using hp
  have hv' : a.tmps[q]?.getD undef = v := by simpa using hv
  simp [results, h, hp', hv', asAddr, hl]
theorem zeros4 : (#[.int .i64 0, .int .i64 0, .int .i64 0, .int .i64 0] : Array Value) = irow 4 (fun _ => 0) := rfl

theorem range_irow {w : World} {g n : Nat} {S : Nat → Int} {t : TypeId} (hg : w.heap[g]? = some (.cells (irow n S) t (0, 0))) : w.rangeAt g 0 (irow n S).toList := by
  intro j v hv
  rw [Nat.zero_add, cell_of_row _ _ j _ _ (0, 0) hg]
  simpa using hv

/-- A row of naturals. -/
def cst (F : Nat → Nat) : Nat → Int := fun i => (F i : Nat)
@[go_sem, simp] theorem cst_app (F : Nat → Nat) (i : Nat) : cst F i = ((F i : Nat) : Int) := rfl
def upN (F : Nat → Nat) (j v : Nat) : Nat → Nat := fun i => if i = j then v else F i
def overN (m : Nat) (T S : Nat → Nat) : Nat → Nat := fun i => if i < m then T i else S i
theorem upd_cst (F : Nat → Nat) (j v : Nat) : upd (cst F) j (v : Nat) = cst (upN F j v) := by
  funext i; simp only [upd, cst, upN]; split <;> rfl
theorem over_cst (m : Nat) (T S : Nat → Nat) : over m (cst T) (cst S) = cst (overN m T S) := by
  funext i; simp only [over, cst, overN]; split <;> rfl
end Go.Proofs.YtbcileppebpamaaGreatDoor
/- Chapter 3 in plain Lean: figures are naturals below 16, a chart is a function of the place. -/
namespace Go.Proofs.YtbcileppebpamaaGreatDoor
open Go Go.RowKit

/-- The bits of a daughter: line s of the first i mothers. -/
def dg (F : Nat → Nat) (s : Nat) : Nat → Nat
  | 0 => 0
  | i + 1 => dg F s i ||| (F i / 2 ^ s % 2 * 2 ^ i)
def pa (k : Nat) : Nat := (par (k * 2)).toNat
def pb (k : Nat) : Nat := (par (k * 2 + 1)).toNat
/-- The figure that follows at a place. -/
def fol (F : Nat → Nat) (k : Nat) : Nat := if 8 ≤ k then F (pa k) ^^^ F (pb k) else dg F (k - 4) 4
/-- The chart after n derived places. -/
def up (M : Nat → Nat) : Nat → Nat → Nat
  | 0 => overN 4 M (fun _ => 0)
  | n + 1 => upN (up M n) (n + 4) (fol (up M n) (n + 4))
def der (M : Nat → Nat) : Nat → Nat := up M 12

theorem pa_lt (k : Nat) : pa k < 16 := by have := par_bd (k * 2); unfold pa; omega
theorem pb_lt (k : Nat) : pb k < 16 := by have := par_bd (k * 2 + 1); unfold pb; omega
theorem dg_lt (F : Nat → Nat) (s : Nat) : ∀ i, dg F s i < 2 ^ i
  | 0 => by simp [dg]
  | i + 1 => by
    have := dg_lt F s i
    rw [dg]
    refine Nat.or_lt_two_pow (by omega) ?_
    have h2 : F i / 2 ^ s % 2 < 2 := Nat.mod_lt _ (by omega)
    calc _ ≤ 1 * 2 ^ i := Nat.mul_le_mul_right _ (by omega)
      _ < 2 ^ (i + 1) := by rw [Nat.pow_succ]; have : 0 < 2 ^ i := Nat.two_pow_pos i; omega
def Ok (F : Nat → Nat) : Prop := ∀ i, F i < 16
theorem fol_lt (F : Nat → Nat) (hF : ∀ i, i < 16 → F i < 16) (k : Nat) : fol F k < 16 := by
  unfold fol
  split
  · exact Nat.xor_lt_two_pow (n := 4) (hF _ (pa_lt k)) (hF _ (pb_lt k))
  · exact dg_lt F (k - 4) 4
theorem up_lt (M : Nat → Nat) (hM : ∀ i, i < 4 → M i < 16) : ∀ n i, i < 16 → up M n i < 16
  | 0, i, _ => by
    simp only [up, overN]
    by_cases h : i < 4
    · rw [if_pos h]; exact hM i h
    · rw [if_neg h]; omega
  | n + 1, i, hi => by
    simp only [up, upN]
    split
    · exact fol_lt _ (up_lt M hM n) _
    · exact up_lt M hM n i hi
theorem der_lt (M : Nat → Nat) (hM : ∀ i, i < 4 → M i < 16) (i : Nat) (hi : i < 16) : der M i < 16 := up_lt M hM 12 i hi
theorem dg_step (F : Nat → Nat) (s n : Nat) (hF : F n < 16) (hn : n < 4) :
    bits .or .i64 ((dg F s n : Nat) : Int) (wrap64 (bits .and .i64 (((F n : Nat) : Int) / 2 ^ s) 1 * 2 ^ n)) = ((dg F s (n + 1) : Nat) : Int) := by
  have e1 : ((F n : Nat) : Int) / 2 ^ s = ((F n / 2 ^ s : Nat) : Int) := by push_cast; rfl
  have hlt : F n / 2 ^ s < 16 := Nat.lt_of_le_of_lt (Nat.div_le_self _ _) hF
  rw [e1, i64_and1 _ (by omega)]
  have e2 : ((F n / 2 ^ s % 2 : Nat) : Int) * 2 ^ n = ((F n / 2 ^ s % 2 * 2 ^ n : Nat) : Int) := by push_cast; rfl
  have hp : 2 ^ n ≤ 8 := by
    have : n = 0 ∨ n = 1 ∨ n = 2 ∨ n = 3 := by omega
    rcases this with rfl | rfl | rfl | rfl <;> decide
  have hb : F n / 2 ^ s % 2 * 2 ^ n ≤ 1 * 8 := Nat.mul_le_mul (by omega) hp
  have hd := dg_lt F s n
  rw [e2, IntWalk.wrap64_in _ (by omega), i64_or _ _ (by omega) (by omega)]
  rfl
/-- The number of mothers, after i of them. -/
def num (M : Nat → Nat) : Nat → Nat
  | 0 => 0
  | i + 1 => num M i * 16 + M i
theorem num_lt (M : Nat → Nat) (hM : ∀ i, i < 4 → M i < 16) : ∀ i, i ≤ 4 → num M i < 16 ^ i
  | 0, _ => by simp [num]
  | i + 1, h => by
    have h1 := num_lt M hM i (by omega)
    have h2 := hM i (by omega)
    rw [num, Nat.pow_succ]; omega
theorem num_step (M : Nat → Nat) (i : Nat) (h : num M i < 4096) (hM : M i < 16) : bits .or .i64 (wrap64 (((num M i : Nat) : Int) * 16)) ((M i : Nat) : Int) = ((num M (i + 1) : Nat) : Int) := by
  have e : ((num M i : Nat) : Int) * 16 = ((num M i * 16 : Nat) : Int) := by push_cast; rfl
  rw [e, IntWalk.wrap64_in _ (by omega), i64_or _ _ (by omega) (by omega), nat_join 4 _ _ (by omega) (by omega)]
  rfl
/-- The mothers with a number. -/
def mths (n : Nat) : Nat → Nat := fun i => n / 2 ^ (4 * (3 - i)) % 16
/-- .. the last i of them laid. -/
def mthsTo (n i : Nat) : Nat → Nat := fun j => if 4 - i ≤ j then n / 2 ^ (4 * (3 - j)) % 16 else 0
theorem mths_lt (n i : Nat) : mths n i < 16 := Nat.mod_lt _ (by omega)
theorem mths_step (n i : Nat) (hn : n < 65536) (hi : i < 4) : bits .and .i64 (((n : Nat) : Int) / 2 ^ (4 * i)) 15 = ((mths n (3 - i) : Nat) : Int) := by
  have e1 : ((n : Nat) : Int) / 2 ^ (4 * i) = ((n / 2 ^ (4 * i) : Nat) : Int) := by push_cast; rfl
  have hlt : n / 2 ^ (4 * i) < 65536 := Nat.lt_of_le_of_lt (Nat.div_le_self _ _) hn
  rw [e1, i64_and15 _ (by omega)]
  unfold mths
  rw [show 3 - (3 - i) = i by omega]
theorem mthsTo_step (n i : Nat) (hi : i < 4) : irow 4 (upd (cst (mthsTo n i)) (3 - i) ((mths n (3 - i) : Nat) : Int)) = irow 4 (cst (mthsTo n (i + 1))) := by
  rw [upd_cst]
  apply irow_congr
  intro j hj
  simp only [cst, upN, mthsTo, mths]
  congr 1
  by_cases e : j = 3 - i
  · subst e; rw [if_pos rfl, if_pos (by omega)]
  · rw [if_neg e]
    by_cases h : 4 - i ≤ j
    · rw [if_pos h, if_pos (by omega)]
    · rw [if_neg h, if_neg (by omega)]
theorem num_mths (n : Nat) (hn : n < 65536) : num (mths n) 4 = n := by
  simp only [num, mths, Nat.reduceSub, Nat.reduceMul, Nat.reducePow]; omega
theorem mths_num (M : Nat → Nat) (hM : ∀ i, i < 4 → M i < 16) (i : Nat) (hi : i < 4) : mths (num M 4) i = M i := by
  have h0 := hM 0 (by omega); have h1 := hM 1 (by omega); have h2 := hM 2 (by omega); have h3 := hM 3 (by omega)
  have : i = 0 ∨ i = 1 ∨ i = 2 ∨ i = 3 := by omega
  rcases this with rfl | rfl | rfl | rfl <;> simp only [num, mths, Nat.reduceSub, Nat.reduceMul, Nat.reducePow] <;> omega
/-- How many marks a line has. -/
def ln (f k : Nat) : Nat := 2 - f / 2 ^ k % 2
theorem ln_bd (f k : Nat) : 1 ≤ ln f k ∧ ln f k ≤ 2 := by have := Nat.mod_lt (f / 2 ^ k) (show 0 < 2 by omega); unfold ln; omega
/-- The figure with some marks, after t lines from below. -/
def ofT (m : Nat → Nat) : Nat → Nat
  | 0 => 0
  | t + 1 => 2 * ofT m t + 2 - m (3 - t)
theorem ofT_lt (m : Nat → Nat) (hm : ∀ i, i < 4 → 1 ≤ m i ∧ m i ≤ 2) : ∀ t, t ≤ 4 → ofT m t < 2 ^ t
  | 0, _ => by simp [ofT]
  | t + 1, h => by
    have h1 := ofT_lt m hm t (by omega)
    have h2 := hm (3 - t) (by omega)
    rw [ofT, Nat.pow_succ]; omega
theorem ofT_congr {m m' : Nat → Nat} (h : ∀ i, i < 4 → m i = m' i) : ∀ t, t ≤ 4 → ofT m t = ofT m' t
  | 0, _ => rfl
  | t + 1, ht => by rw [ofT, ofT, ofT_congr h t (by omega), h (3 - t) (by omega)]
def sumM (a b : Nat) : Nat → Nat := fun j => if ln a j = ln b j then 2 else 1
theorem ofT_sum (a b : Nat) (ha : a < 16) (hb : b < 16) : ofT (sumM a b) 4 = a ^^^ b := by
  have : ∀ a b : Fin 16, ofT (sumM a b) 4 = a.1 ^^^ b.1 := by decide +kernel
  exact this ⟨a, ha⟩ ⟨b, hb⟩
theorem ofT_dg (F : Nat → Nat) (s : Nat) : ofT (fun i => ln (F i) s) 4 = dg F s 4 := by
  have hb : ∀ i, F i / 2 ^ s % 2 = 0 ∨ F i / 2 ^ s % 2 = 1 := fun i => by omega
  simp only [ofT, ln, dg, Nat.reduceSub]
  rcases hb 0 with h0 | h0 <;> rcases hb 1 with h1 | h1 <;> rcases hb 2 with h2 | h2 <;> rcases hb 3 with h3 | h3 <;> simp only [h0, h1, h2, h3] <;> decide
theorem half_pow (f k : Nat) : f / 2 ^ k / 2 = f / 2 ^ (k + 1) := by rw [Nat.div_div_eq_div_mul, Nat.pow_succ]
/-- The parents in numbers. -/
theorem pa_pb (k : Nat) (h8 : 8 ≤ k) (h16 : k < 16) : (k < 14 → pa k = 2 * (k - 8) ∧ pb k = 2 * (k - 8) + 1) ∧ (k = 14 → pa k = 12 ∧ pb k = 13) ∧ (k = 15 → pa k = 14 ∧ pb k = 0) := by
  have : k = 8 ∨ k = 9 ∨ k = 10 ∨ k = 11 ∨ k = 12 ∨ k = 13 ∨ k = 14 ∨ k = 15 := by omega
  rcases this with rfl | rfl | rfl | rfl | rfl | rfl | rfl | rfl <;> decide
/-- The places below p that do not follow. -/
def wl (F : Nat → Nat) : Nat → List Int
  | 0 => []
  | p + 1 => if p < 4 ∨ F p = fol F p then wl F p else wl F p ++ [((p : Nat) : Int)]
theorem wl_len (F : Nat → Nat) : ∀ p, (wl F p).length ≤ p
  | 0 => by simp [wl]
  | p + 1 => by
    have := wl_len F p
    rw [wl]; split
    · omega
    · simp; omega
/-- Whether a line has one mark. -/
def bitB (f l : Nat) : Bool := decide (f / 2 ^ l % 2 = 1)
theorem bit_and (f l : Nat) (hf : f < 16) : (bits .and .i64 (((f : Nat) : Int) / 2 ^ l) 1 == 1) = bitB f l := by
  have e1 : ((f : Nat) : Int) / 2 ^ l = ((f / 2 ^ l : Nat) : Int) := by push_cast; rfl
  have hlt : f / 2 ^ l < 16 := Nat.lt_of_le_of_lt (Nat.div_le_self _ _) hf
  rw [e1, i64_and1 _ (by omega)]
  unfold bitB
  rw [Bool.eq_iff_iff]; simp; omega
/-- The places of a way. -/
def wk (F : Nat → Nat) (l : Nat) : Nat → Nat
  | 0 => 14
  | j + 1 => if bitB (F (pa (wk F l j))) l then pa (wk F l j) else pb (wk F l j)
def wlist (F : Nat → Nat) (l : Nat) : Nat → List Int
  | 0 => [14]
  | j + 1 => wlist F l j ++ [((wk F l (j + 1) : Nat) : Int)]
theorem wlist_len (F : Nat → Nat) (l : Nat) : ∀ j, (wlist F l j).length = j + 1
  | 0 => rfl
  | j + 1 => by rw [wlist, List.length_append, wlist_len F l j]; rfl
theorem wk_bd (F : Nat → Nat) (l : Nat) : (12 ≤ wk F l 1 ∧ wk F l 1 ≤ 13) ∧ (8 ≤ wk F l 2 ∧ wk F l 2 ≤ 11) ∧ wk F l 3 ≤ 7 := by
  have h1 : 12 ≤ wk F l 1 ∧ wk F l 1 ≤ 13 := by
    rw [wk, wk]; split <;> decide
  have h2 : 8 ≤ wk F l 2 ∧ wk F l 2 ≤ 11 := by
    rw [wk]
    have : wk F l 1 = 12 ∨ wk F l 1 = 13 := by omega
    rcases this with h | h <;> rw [h] <;> split <;> decide
  refine ⟨h1, h2, ?_⟩
  rw [wk]
  have : wk F l 2 = 8 ∨ wk F l 2 = 9 ∨ wk F l 2 = 10 ∨ wk F l 2 = 11 := by omega
  rcases this with h | h | h | h <;> rw [h] <;> split <;> decide
end Go.Proofs.YtbcileppebpamaaGreatDoor
