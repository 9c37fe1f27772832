/- OnesCount64; records of ints: loads and stores; what Mend keeps. -/
import Derived.Test.YtphnibllfpkkkaaDoorW17
import Derived.Test.YtphnibllfpkkkaaDoorG5
namespace Go.Proofs.YtphnibllfpkkkaaDoor
open Go Go.RowKit Go.Shelf
set_option maxRecDepth 100000

/-- A struct type of n cells. -/
structure RecT (P : Program) (T n : Nat) : Prop where
  und : ∃ fs, P.underlying T = some (.struct fs)
  siz : (P.info? T).map (·.size) = some n
theorem run_loadVar_rec {P : Program} {T n : Nat} (hT : RecT P T n) {w : World} {g : Nat} {S : Nat → Int} {t : TypeId} (hg : w.heap[g]? = some (.cells (irow n S) t (0, 0))) :
    (loadVar T ⟨g, 0, none⟩).run P w = .ok (.agg (irow n S)) w := by
  obtain ⟨fs, hu⟩ := hT.und
  exact run_loadVar_row w g t T _ (0, 0) _ hg hu rfl (by rw [irow_size]; exact hT.siz)
theorem ldrec {P : Program} {T n : Nat} (hT : RecT P T n) {ops : Array Oper} {rest : List Oper} {o : Oper} {a : Act} {w : World} {Q : Exit → Act → World → Prop} (x : Operand) (hgd : o.guard = none) (ho : o.op = .load T x)
    (g : Nat) (hx : a.eval x = .pointer (some ⟨g, 0, none⟩)) (S : Nat → Int) (t : TypeId) (hg : w.heap[g]? = some (.cells (irow n S) t (0, 0)))
    (h : wpList P ops Q rest (a.put o.dst (.agg (irow n S))) w) : wpList P ops Q (o :: rest) a w := by
  obtain ⟨fs, hu⟩ := hT.und
  exact wpList_load_row hgd T x ho g hx t _ (0, 0) _ hg hu rfl (by rw [irow_size]; exact hT.siz) h
theorem ldrecG {P : Program} {T n : Nat} (hT : RecT P T n) {ops : Array Oper} {rest : List Oper} {o : Oper} {a : Act} {w : World} {Q : Exit → Act → World → Prop} (x : Operand) (ho : o.op = .load T x)
    (hw : Region.wanted o (yielded ops a.tmps) = true)
    (g : Nat) (hx : a.eval x = .pointer (some ⟨g, 0, none⟩)) (S : Nat → Int) (t : TypeId) (hg : w.heap[g]? = some (.cells (irow n S) t (0, 0)))
    (h : wpList P ops Q rest (a.put o.dst (.agg (irow n S))) w) : wpList P ops Q (o :: rest) a w := by
  obtain ⟨fs, hu⟩ := hT.und
  exact Go.BigFrame.wpList_want hw fun K hK => wp_load_row T x ho g hx t _ (0, 0) _ hg hu rfl (by rw [irow_size]; exact hT.siz) (hK _ _ h)
theorem strec {P : Program} {T n : Nat} (hT : RecT P T n) {ops : Array Oper} {rest : List Oper} {o : Oper} {a : Act} {w : World} {Q : Exit → Act → World → Prop} (x y : Operand) (hgd : o.guard = none) (ho : o.op = .store T x y)
    (g : Nat) (V : Nat → Int) (hx : a.eval x = .pointer (some ⟨g, 0, none⟩)) (hy : a.eval y = .agg (irow n V)) (S : Nat → Int) (t : TypeId) (hg : w.heap[g]? = some (.cells (irow n S) t (0, 0)))
    (h : wpList P ops Q rest (a.put o.dst undef) (w.setRow g (irow n V))) : wpList P ops Q (o :: rest) a w :=
  wpList_store_row hgd T x y ho g _ hx hy t _ hg (by rw [irow_size]; exact hT.siz) (by simp) (irow_all _ _) h
theorem ldrecIn {F : Fence} {nn : Nat} {P : Program} {T n : Nat} (hT : RecT P T n) {ops : Array Oper} {rest : List Oper} {o : Oper} {a : Act} {w : World} {Q : Exit → Act → World → Prop} (x : Operand) (hgd : o.guard = none) (ho : o.op = .load T x)
    (g : Nat) (hx : a.eval x = .pointer (some ⟨g, 0, none⟩)) (S : Nat → Int) (t : TypeId) (hg : w.heap[g]? = some (.cells (irow n S) t (0, 0)))
    (h : wpListIn F nn P ops Q rest (a.put o.dst (.agg (irow n S))) w) : wpListIn F nn P ops Q (o :: rest) a w := by
  refine wpListIn_plain hgd fun K hK => ?_
  have hrun := run_loadVar_rec hT hg
  unfold Oper.wpIn
  refine ⟨by simp [Oper.about, ho], ?_⟩
  rw [Oper.semAt_plain F _ _ (by rw [ho]; intro c hc; cases hc)]
  simp only [execOp, ho, hx, Instr.loadAt, Instr.sureAddr, Sem.run_bind, Sem.run_pure, Result.andThen_ok, hrun]
  exact hK _ _ h
theorem strecIn {F : Fence} {nn : Nat} {P : Program} {T n : Nat} (hT : RecT P T n) {ops : Array Oper} {rest : List Oper} {o : Oper} {a : Act} {w : World} {Q : Exit → Act → World → Prop} (x y : Operand) (hgd : o.guard = none) (ho : o.op = .store T x y)
    (g : Nat) (V : Nat → Int) (hx : a.eval x = .pointer (some ⟨g, 0, none⟩)) (hy : a.eval y = .agg (irow n V)) (S : Nat → Int) (t : TypeId) (hg : w.heap[g]? = some (.cells (irow n S) t (0, 0)))
    (h : wpListIn F nn P ops Q rest (a.put o.dst undef) (w.setRow g (irow n V))) : wpListIn F nn P ops Q (o :: rest) a w := by
  refine wpListIn_plain hgd fun K hK => ?_
  have hrun := run_storeVar_row (P := P) w g t T (irow n S) (irow n V) hg (by rw [irow_size]; exact hT.siz) (by simp) (irow_all _ _)
  unfold Oper.wpIn
  refine ⟨by simp [Oper.about, ho], ?_⟩
  rw [Oper.semAt_plain F _ _ (by rw [ho]; intro c hc; cases hc)]
  simp only [execOp, ho, hx, hy, Instr.storeAt, Instr.sureAddr, Sem.run_bind, Sem.run_pure, Result.andThen_ok, hrun]
  exact hK _ _ h
/-- A row of 16 is stored behind the first k cells of another row. -/
theorem storeCells_off (P : Program) (g : Nat) : ∀ (vs : List Value) (k i : Nat) (w : World), (storeCells ⟨g, k, none⟩ vs i).run P w = (storeCells ⟨g, 0, none⟩ vs (k + i)).run P w
  | [], _, _, _ => rfl
  | v :: rest, k, i, w => by
    have hadd : (⟨g, k, none⟩ : Addr).add i = (⟨g, 0, none⟩ : Addr).add (k + i) := by unfold Addr.add; split <;> split <;> simp_all
    simp only [storeCells, Sem.run_bind, hadd]
    congr 1
    funext u w'
    rw [storeCells_off P g rest k (i + 1) w', Nat.add_assoc]
/-- Marks, charts and a shield. -/
def rep (m c : Nat) (F : Nat → Nat) : Nat → Nat := fun i => if i = 0 then m else if i = 1 then c else F (i - 2)
set_option maxHeartbeats 4000000 in
theorem rep_lit (m c : Int) : (#[.int .i64 m, .int .i64 c, .int .i64 0, .int .i64 0, .int .i64 0, .int .i64 0, .int .i64 0, .int .i64 0, .int .i64 0, .int .i64 0, .int .i64 0, .int .i64 0, .int .i64 0, .int .i64 0, .int .i64 0, .int .i64 0, .int .i64 0, .int .i64 0] : Array Value) = irow 18 (fun i => if i = 0 then m else if i = 1 then c else 0) := rfl
theorem rep_row (m c : Nat) : irow 18 (fun i => if i = 0 then ((m : Nat) : Int) else if i = 1 then ((c : Nat) : Int) else 0) = irow 18 (cst (rep m c (fun _ => 0))) := irow_congr fun i _ => by
  simp only [cst, rep]
  split
  · rfl
  · split <;> rfl
theorem rep_zero : (#[.int .i64 0, .int .i64 0, .int .i64 0, .int .i64 0, .int .i64 0, .int .i64 0, .int .i64 0, .int .i64 0, .int .i64 0, .int .i64 0, .int .i64 0, .int .i64 0, .int .i64 0, .int .i64 0, .int .i64 0, .int .i64 0, .int .i64 0, .int .i64 0] : Array Value) = irow 18 (cst (rep 0 0 (fun _ => 0))) := rfl
theorem rep_65 : (#[.int .i64 65, .int .i64 0, .int .i64 0, .int .i64 0, .int .i64 0, .int .i64 0, .int .i64 0, .int .i64 0, .int .i64 0, .int .i64 0, .int .i64 0, .int .i64 0, .int .i64 0, .int .i64 0, .int .i64 0, .int .i64 0, .int .i64 0, .int .i64 0] : Array Value) = irow 18 (cst (rep 65 0 (fun _ => 0))) := rfl
theorem rep_one (d : Nat) : (#[.int .i64 ((d : Nat) : Int), .int .i64 1, .int .i64 0, .int .i64 0, .int .i64 0, .int .i64 0, .int .i64 0, .int .i64 0, .int .i64 0, .int .i64 0, .int .i64 0, .int .i64 0, .int .i64 0, .int .i64 0, .int .i64 0, .int .i64 0, .int .i64 0, .int .i64 0] : Array Value) = irow 18 (cst (rep d 1 (fun _ => 0))) :=
  (rep_lit ((d : Nat) : Int) ((1 : Nat) : Int)).trans (rep_row d 1)
theorem rep_over (m c : Nat) (F G : Nat → Nat) : ((irow 18 (cst (rep m c F))).toList.take 2 ++ (irow 16 (cst G)).toList).toArray = irow 18 (cst (rep m c G)) := by
  apply Array.ext_getElem?
  intro i
  rw [List.getElem?_toArray, List.getElem?_append, List.length_take, Array.length_toList, irow_size]
  by_cases h : i < 2
  · rw [if_pos (by omega), List.getElem?_take, if_pos h, Array.getElem?_toList, irow_get _ _ _ (by omega), irow_get _ _ _ (by omega)]
    have : i = 0 ∨ i = 1 := by omega
    rcases this with rfl | rfl <;> rfl
  · rw [if_neg (by omega), show min 2 18 = 2 from rfl, Array.getElem?_toList]
    by_cases h2 : i < 18
    · rw [irow_get _ _ _ (by omega), irow_get _ _ _ h2]
      simp only [cst, rep]
      rw [if_neg (by omega), if_neg (by omega)]
    · rw [Array.getElem?_eq_none (by simp; omega), Array.getElem?_eq_none (by simp; omega)]
theorem rep_set0 (m c : Nat) (F : Nat → Nat) (d : Nat) : irow 18 (upd (cst (rep m c F)) 1 ((d : Nat) : Int)) = irow 18 (cst (rep m d F)) := by
  rw [upd_cst]
  refine irow_congr fun i _ => ?_
  simp only [cst, upN, rep]
  by_cases h1 : i = 1
  · subst h1; simp
  · simp [h1]
theorem recRepair : RecT Tryd.prog 87 18 := ⟨⟨_, Tryd.underlying87⟩, by kernel_rfl⟩
/-- The shield of a record is stored. -/
theorem run_storeShield {w : World} {g : Nat} {t : TypeId} (m c : Nat) (F G : Nat → Nat) (hg : w.heap[g]? = some (.cells (irow 18 (cst (rep m c F))) t (0, 0))) :
    (storeVar 24 ⟨g, 2, none⟩ (.agg (irow 16 (cst G)))).run Tryd.prog w = .ok () (w.setRow g (irow 18 (cst (rep m c G)))) := by
  have h := run_storeCells_from (P := Tryd.prog) g t (irow 16 (cst G)).toList 2 (irow 18 (cst (rep m c F))) w hg (by simp) (fun v hv => (Array.all_eq_true_iff_forall_mem.1 (irow_all 16 (cst G))) v (by simpa using hv))
  rw [rep_over] at h
  have h2 := storeCells_off Tryd.prog g (irow 16 (cst G)).toList 2 0 w
  rw [h] at h2
  cases hq : Tryd.prog.info? 24 with
  | none =>
    have := arrShield.siz
    rw [hq] at this; cases this
  | some i =>
    have hs : (irow 16 (cst G)).size = i.size := by
      have := arrShield.siz
      rw [hq] at this
      simp at this
      simp [this]
    simp [storeVar, sizeOf, typeInfo, hq, Value.cells, hs, h2]
theorem stshIn {F : Fence} {nn : Nat} {ops : Array Oper} {rest : List Oper} {o : Oper} {a : Act} {w : World} {Q : Exit → Act → World → Prop} (x y : Operand) (hgd : o.guard = none) (ho : o.op = .store 24 x y)
    (g : Nat) (G : Nat → Nat) (hx : a.eval x = .pointer (some ⟨g, 2, none⟩)) (hy : a.eval y = .agg (irow 16 (cst G))) (m c : Nat) (H : Nat → Nat) (t : TypeId) (hg : w.heap[g]? = some (.cells (irow 18 (cst (rep m c H))) t (0, 0)))
    (h : wpListIn F nn Tryd.prog ops Q rest (a.put o.dst undef) (w.setRow g (irow 18 (cst (rep m c G))))) : wpListIn F nn Tryd.prog ops Q (o :: rest) a w := by
  refine wpListIn_plain hgd fun K hK => ?_
  have hrun := run_storeShield m c H G hg
  unfold Oper.wpIn
  refine ⟨by simp [Oper.about, ho], ?_⟩
  rw [Oper.semAt_plain F _ _ (by rw [ho]; intro c hc; cases hc)]
  simp only [execOp, ho, hx, hy, Instr.storeAt, Instr.sureAddr, Sem.run_bind, Sem.run_pure, Result.andThen_ok, hrun]
  exact hK _ _ h
/-- Two results, a record and a slot. -/
theorem results_rec2 {P : Program} {T n : Nat} (hT : RecT P T n) {fn : Func} {p q : Tmp} (h : fn.results = #[.cell p T, .tmp q]) (tmps : Array Value) (w : World) (g : Nat) (S : Nat → Int) (t : TypeId) (v : Value)
    (hp : tmps.getD p undef = .pointer (some ⟨g, 0, none⟩)) (hv : tmps.getD q undef = v) (hg : w.heap[g]? = some (.cells (irow n S) t (0, 0))) :
    (results fn tmps).run P w = .ok (.tuple #[.agg (irow n S), v]) w := by
  have hl := run_loadVar_rec hT hg
  have hp' : tmps[p]?.getD undef = .pointer (some ⟨g, 0, none⟩) := by simpa using hp
  have hv' : tmps[q]?.getD undef = v := by simpa using hv
  simp [results, h, hp', hv', asAddr, hl]
theorem keepO_setAt {lo n₀ b i : Nat} (W : World) (v : Value) (h1 : lo ≤ b) (h2 : b < n₀) : KeepO lo n₀ W (W.setCell ⟨b, i, none⟩ v) :=
  ⟨rfl, rfl, rfl, by simp, fun k o hk _ hn => (heap_setCell_other W ⟨b, i, none⟩ k v (by show k ≠ b; rintro rfl; exact hn ⟨h1, h2⟩)).trans hk⟩
theorem keepO_setRow {lo n₀ b : Nat} (W : World) (r : Array Value) (h1 : lo ≤ b) (h2 : b < n₀) : KeepO lo n₀ W (W.setRow b r) :=
  ⟨rfl, rfl, rfl, by simp, fun k o hk _ hn => (setRow_other W b k r (by rintro rfl; exact hn ⟨h1, h2⟩)).trans hk⟩
theorem keeps_setAt (B : Nat) (W : World) (b i : Nat) (v : Value) (hb : b < B) : KeepsFrom B W (W.setCell ⟨b, i, none⟩ v) :=
  ⟨by simp, fun k o hB hk _ => (heap_setCell_other W ⟨b, i, none⟩ k v (by show k ≠ b; omega)).trans hk⟩
theorem keeps_setRow (B : Nat) (W : World) (b : Nat) (r : Array Value) (hb : b < B) : KeepsFrom B W (W.setRow b r) :=
  ⟨by simp, fun k o hB hk _ => (setRow_other W b k r (by omega)).trans hk⟩

/-- In how many marks a chart differs from a copy. -/
def DF (F : Nat → Nat) (n : Nat) : Nat := dist (der (mths n)) F
theorem DF_le (F : Nat → Nat) (hF : ∀ i, i < 16 → F i < 16) (n : Nat) : DF F n ≤ 64 := dist_le _ _ (der_lt (mths n) (fun i _ => mths_lt n i)) hF
theorem word_pk (F : Nat → Nat) (hF : ∀ i, i < 16 → F i < 16) (n : Nat) : word n ^^^ pk F 16 = pk (fun i => der (mths n) i ^^^ F i) 16 :=
  (pk_xor _ _ 16 (der_lt (mths n) (fun i _ => mths_lt n i)) hF).symm
/-- What holds while Mend goes over the charts. -/
structure CM (F : Nat → Nat) (lo b0 : Nat) (w : World) (pre : List Nat) (W : World) : Prop where
  res : W.heap[lo + 1]? = some (.cells (irow 18 (cst (rep 0 0 (fun _ => 0)))) 87 (0, 0))
  word : W.heap[b0]? = some (.cells #[.int .u64 ((pk F 16 : Nat) : Int)] 120 (0, 0))
  best : W.heap[b0 + 1]? = some (.cells (irow 18 (cst (rep (mL (DF F) pre).1 (mL (DF F) pre).2.1 (fun _ => 0)))) 87 (0, 0))
  lst : W.heap[b0 + 1 + 1]? = some (.cells #[.int .i64 (((mL (DF F) pre).2.2 : Nat) : Int)] 3 (0, 0))
  below : Below lo w W
theorem CM_own {F : Nat → Nat} {lo b0 : Nat} {w : World} {B : Nat} (hB : lo ≤ B) (hw : lo ≤ w.heap.size) : OwnFrom B (CM F lo b0 w) := fun pre W W' row h hg hr => by
  have hr' : ∀ r, row = some r → ∃ o : Obj, W.heap[r]? = some o ∧ o.isCells = false := fun r e => (hr r e).2
  exact ⟨own_fact hg hr' h.res, own_fact hg hr' h.word, own_fact hg hr' h.best, own_fact hg hr' h.lst, h.below.grown hg (Nat.le_trans hw h.below.size) (fun k e => Nat.le_trans hB (hr k e).1)⟩
theorem CM.skip {F : Nat → Nat} {lo b0 : Nat} {w : World} {pre : List Nat} {W : World} (h : CM F lo b0 w pre W) (x : Nat) (h1 : ¬ DF F (gr x) < (mL (DF F) pre).1) (h2 : ¬ DF F (gr x) = (mL (DF F) pre).1) : CM F lo b0 w (pre ++ [x]) W := by
  have e : mL (DF F) (pre ++ [x]) = mL (DF F) pre := by rw [mL_snoc]; unfold mstep; rw [if_neg h1, if_neg h2]
  exact ⟨h.res, h.word, by rw [e]; exact h.best, by rw [e]; exact h.lst, h.below⟩
theorem CM.take {F : Nat → Nat} {lo b0 : Nat} {w : World} {pre : List Nat} {W : World} (h : CM F lo b0 w pre W) (hb0 : lo + 1 < b0) (x : Nat) (h1 : DF F (gr x) < (mL (DF F) pre).1) :
    CM F lo b0 w (pre ++ [x]) ((W.setRow (b0 + 1) (irow 18 (cst (rep (DF F (gr x)) 1 (fun _ => 0))))).setCell ⟨b0 + 1 + 1, 0, none⟩ (.int .i64 ((gr x : Nat) : Int))) := by
  have e : mL (DF F) (pre ++ [x]) = (DF F (gr x), 1, gr x) := by rw [mL_snoc]; unfold mstep; rw [if_pos h1]
  have k : ∀ b, b ≠ b0 + 1 → b ≠ b0 + 1 + 1 → ((W.setRow (b0 + 1) (irow 18 (cst (rep (DF F (gr x)) 1 (fun _ => 0))))).setCell ⟨b0 + 1 + 1, 0, none⟩ (.int .i64 ((gr x : Nat) : Int))).heap[b]? = W.heap[b]? := fun b e1 e2 =>
    (heap_setCell_other _ ⟨b0 + 1 + 1, 0, none⟩ b _ e2).trans (setRow_other W (b0 + 1) b _ e1)
  exact ⟨(k _ (by omega) (by omega)).trans h.res, (k _ (by omega) (by omega)).trans h.word, by rw [e]; exact (heap_setCell_other _ ⟨b0 + 1 + 1, 0, none⟩ (b0 + 1) _ (by show b0 + 1 ≠ b0 + 1 + 1; omega)).trans (setRow_heap W (b0 + 1) _ _ _ _ h.best),
    by rw [e]; exact one_set ((setRow_other W (b0 + 1) (b0 + 1 + 1) _ (by omega)).trans h.lst) _, (below_setRow h.below (by omega) _).setCell (show lo ≤ b0 + 1 + 1 by omega) (p := ⟨b0 + 1 + 1, 0, none⟩) _⟩
theorem CM.more {F : Nat → Nat} {lo b0 : Nat} {w : World} {pre : List Nat} {W : World} (h : CM F lo b0 w pre W) (hb0 : lo + 1 < b0) (x : Nat) (h1 : DF F (gr x) = (mL (DF F) pre).1) (c l : Nat) (hc : (mL (DF F) pre).2.1 + 1 = c) (hl : min (mL (DF F) pre).2.2 (gr x) = l) :
    CM F lo b0 w (pre ++ [x]) ((W.setCell ⟨b0 + 1, 1, none⟩ (.int .i64 ((c : Nat) : Int))).setCell ⟨b0 + 1 + 1, 0, none⟩ (.int .i64 ((l : Nat) : Int))) := by
  have e : mL (DF F) (pre ++ [x]) = ((mL (DF F) pre).1, c, l) := by rw [mL_snoc, ← hc, ← hl]; unfold mstep; rw [if_neg (by omega), if_pos h1]
  have k : ∀ b, b ≠ b0 + 1 → b ≠ b0 + 1 + 1 → ((W.setCell ⟨b0 + 1, 1, none⟩ (.int .i64 ((c : Nat) : Int))).setCell ⟨b0 + 1 + 1, 0, none⟩ (.int .i64 ((l : Nat) : Int))).heap[b]? = W.heap[b]? := fun b e1 e2 =>
    (heap_setCell_other _ ⟨b0 + 1 + 1, 0, none⟩ b _ e2).trans (heap_setCell_other W ⟨b0 + 1, 1, none⟩ b _ e1)
  exact ⟨(k _ (by omega) (by omega)).trans h.res, (k _ (by omega) (by omega)).trans h.word, by rw [e, ← rep_set0 _ ((mL (DF F) pre).2.1)]; exact (heap_setCell_other _ ⟨b0 + 1 + 1, 0, none⟩ (b0 + 1) _ (by show b0 + 1 ≠ b0 + 1 + 1; omega)).trans (set_irow h.best 1 _),
    by rw [e]; exact one_set ((heap_setCell_other W ⟨b0 + 1, 1, none⟩ (b0 + 1 + 1) _ (by show b0 + 1 + 1 ≠ b0 + 1; omega)).trans h.lst) _, (h.below.setCell (show lo ≤ b0 + 1 by omega) (p := ⟨b0 + 1, 1, none⟩) _).setCell (show lo ≤ b0 + 1 + 1 by omega) (p := ⟨b0 + 1 + 1, 0, none⟩) _⟩

set_option maxHeartbeats 1000000 in
theorem ones64_c (F : Nat → Nat) (hF : ∀ i, i < 16 → F i < 16) (x d : Nat) (hx : pk F 16 = x) (hd : wtF F = d) (w : World) :
    Calls Tryd.prog 73 #[.int .u64 ((x : Nat) : Int)] w fun e w' => e = .returned (.int .i64 ((d : Nat) : Int)) ∧ w = w' := by
  obtain ⟨⟨b0, b1, b2, b3, b4, b5, b6⟩, b2', hp⟩ := pops F hF
  rw [hx] at b0 b1 b2 b3 b4 b5 b6 b2' hp
  rw [hd] at hp
  have e1 : bits .and .u64 (((x / 2 : Nat) : Nat) : Int) 6148914691236517205 = ((x / 2 &&& 6148914691236517205 : Nat) : Int) := u64_and (x / 2) 6148914691236517205 (by omega) (by omega)
  have e2 : bits .and .u64 ((x : Nat) : Int) 6148914691236517205 = ((x &&& 6148914691236517205 : Nat) : Int) := u64_and x 6148914691236517205 (by omega) (by omega)
  have e3 : IntKind.u64.wrap (((x / 2 &&& 6148914691236517205 : Nat) : Int) + ((x &&& 6148914691236517205 : Nat) : Int)) = ((pop1 x : Nat) : Int) := by
    rw [← Int.natCast_add]; exact wrap_natU _ b1
  have q1 : ((x : Nat) : Int) / 2 = ((x / 2 : Nat) : Int) := by omega
  unfold popN at hp
  generalize x / 2 &&& 6148914691236517205 = y1 at *
  generalize x &&& 6148914691236517205 = y2 at *
  generalize x / 2 = y0 at *
  generalize pop1 x = x1 at *
  have f1 : bits .and .u64 (((x1 / 4 : Nat) : Nat) : Int) 3689348814741910323 = ((x1 / 4 &&& 3689348814741910323 : Nat) : Int) := u64_and (x1 / 4) 3689348814741910323 (by omega) (by omega)
  have f2 : bits .and .u64 ((x1 : Nat) : Int) 3689348814741910323 = ((x1 &&& 3689348814741910323 : Nat) : Int) := u64_and x1 3689348814741910323 (by omega) (by omega)
  have f3 : IntKind.u64.wrap (((x1 / 4 &&& 3689348814741910323 : Nat) : Int) + ((x1 &&& 3689348814741910323 : Nat) : Int)) = ((pop2 x1 : Nat) : Int) := by
    rw [← Int.natCast_add]; exact wrap_natU _ b2
  have q2 : ((x1 : Nat) : Int) / 4 = ((x1 / 4 : Nat) : Int) := by omega
  generalize x1 / 4 &&& 3689348814741910323 = z1 at *
  generalize x1 &&& 3689348814741910323 = z2 at *
  generalize x1 / 4 = z0 at *
  generalize pop2 x1 = x2 at *
  have g1 : IntKind.u64.wrap (((x2 / 16 : Nat) : Int) + ((x2 : Nat) : Int)) = ((x2 / 16 + x2 : Nat) : Int) := by
    rw [← Int.natCast_add]; exact wrap_natU _ (by omega)
  have g2 : bits .and .u64 ((x2 / 16 + x2 : Nat) : Int) 1085102592571150095 = ((pop3 x2 : Nat) : Int) := u64_and (x2 / 16 + x2) 1085102592571150095 (by omega) (by omega)
  have q3 : ((x2 : Nat) : Int) / 16 = ((x2 / 16 : Nat) : Int) := by omega
  generalize x2 / 16 + x2 = u1 at *
  generalize x2 / 16 = u0 at *
  generalize pop3 x2 = x3 at *
  have h1 : IntKind.u64.wrap (((x3 : Nat) : Int) + ((x3 / 256 : Nat) : Int)) = ((pop4 x3 : Nat) : Int) := by
    rw [← Int.natCast_add]; exact wrap_natU _ (show pop4 x3 < _ by omega)
  have q4 : ((x3 : Nat) : Int) / 256 = ((x3 / 256 : Nat) : Int) := by omega
  generalize x3 / 256 = u2 at *
  generalize pop4 x3 = x4 at *
  have h2 : IntKind.u64.wrap (((x4 : Nat) : Int) + ((x4 / 65536 : Nat) : Int)) = ((pop5 x4 : Nat) : Int) := by
    rw [← Int.natCast_add]; exact wrap_natU _ (show pop5 x4 < _ by omega)
  have q5 : ((x4 : Nat) : Int) / 65536 = ((x4 / 65536 : Nat) : Int) := by omega
  generalize x4 / 65536 = u3 at *
  generalize pop5 x4 = x5 at *
  have h3 : IntKind.u64.wrap (((x5 : Nat) : Int) + ((x5 / 4294967296 : Nat) : Int)) = ((pop6 x5 : Nat) : Int) := by
    rw [← Int.natCast_add]; exact wrap_natU _ (show pop6 x5 < _ by omega)
  have q6 : ((x5 : Nat) : Int) / 4294967296 = ((x5 / 4294967296 : Nat) : Int) := by omega
  generalize x5 / 4294967296 = u4 at *
  generalize pop6 x5 = x6 at *
  have h4 : IntKind.i64.wrap ((x6 : Nat) : Int) = ((x6 : Nat) : Int) := wrap_nat x6 (by omega)
  have h5 : bits .and .i64 ((x6 : Nat) : Int) 127 = ((d : Nat) : Int) := by
    rw [show (127 : Int) = ((127 : Nat) : Int) from rfl, i64_and x6 127 (by omega) (by omega), ← hp]
    congr 1
    exact Nat.and_two_pow_sub_one_eq_mod x6 7
  clear b0 b1 b2 b3 b4 b5 b6 b2' hp hx hd hF
  go_enter Tryd.func73, Tryd.ntmps73
  go_wp2_with fail
  go_ret
  exact ⟨rfl, rfl⟩
end Go.Proofs.YtphnibllfpkkkaaDoor
