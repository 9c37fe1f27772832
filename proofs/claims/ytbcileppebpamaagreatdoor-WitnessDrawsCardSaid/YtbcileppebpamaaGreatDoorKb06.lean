/- Lemmas for WitnessDraws: part 6. -/
import Derived.Shelf.Abstract
import Derived.TacticsInMore
import Derived.LoopNIn
import Derived.LoopIn
import Derived.OwnWalkIn
import Derived.BigFrameIn
import Derived.Sort.CutIn
import Derived.Test.YtbcileppebpamaaGreatDoorKb01
import Derived.Test.YtbcileppebpamaaGreatDoorKb05
set_option linter.unusedSimpArgs false
set_option linter.unusedVariables false
namespace Go.Proofs.YtbcileppebpamaaGreatDoor
open Go Go.RowKit
set_option maxRecDepth 100000
section
variable {F : Fence} {n : Nat} {P : Program} {α : Type}
/-- What is asked of the iterator: what it hands to the body; S x: the blocks that it reads again behind that round. -/
def SeqB (F : Fence) (n : Nat) (P : Program) (g : Nat) (pb lb : Array Value) (encs : α → Array Value) (S : α → Nat → Prop) (Ok : List α → α → World → Prop) (End : List α → Prop) (w : World) : Prop :=
  ∀ (l : Nat) (J Jx : List α → World → Prop) (W : World), Below w.heap.size w W → (∀ pre W1 W2, J pre W1 → Below W1.heap.size W1 W2 → J pre W2) → (∀ pre, Abd W.heap.size (J pre) ∧ Abd W.heap.size (Jx pre)) →
    (∀ pre x W1, J pre W1 → Ok pre x W1 → YieldAt F (n - 1) P l (encs x) W1 fun e W' => (e = .returned (.bool true) ∧ J (pre ++ [x]) W' ∧ KeptS (S x) W1 W' ∧ KeepsL W1 W') ∨ (e = .returned (.bool false) ∧ Jx (pre ++ [x]) W' ∧ KeptS (fun _ => False) W1 W' ∧ ∀ k r, W.heap.size ≤ k → W1.heap[k]? = some (.loop r) → W'.heap[k]? = some (.loop r))) →
    J [] W → CallsIn F n P g (pb ++ #[.func (.yield l) #[] #[]] ++ lb) W fun e W' => (∃ v, e = .returned v) ∧ SeqEnd End J Jx W'
/-- The law outside a round. -/
theorem rb_out {g : Operand} {ps : Array Tmp} {assign body : Code} {Q : Exit → Act → World → Prop} {a : Act} {w : World}
    (hro : F.round = none) (h1 : 1 ≤ n) {gf : Nat} {pb lb : Array Value} (hg : a.eval g = .func (.func gf) pb lb) (hFg : F.fn gf) (eg : ∀ args w, (callFunc gf args).run P w = .ok (.enter gf args) w)
    {encs : α → Array Value} {S : α → Nat → Prop} {Ok : List α → α → World → Prop} {End : List α → Prop} (hseq : SeqB F (n - 1) P gf pb lb encs S Ok End w) (hps : ∀ x, (encs x).size = ps.size)
    (I : List α → World → Prop) (Ix : Code → List α → World → Prop) (hI : ∀ pre, Abd w.heap.size (I pre)) (hIx : ∀ c pre, Abd w.heap.size (Ix c pre)) (hOk : ∀ pre x, Abd w.heap.size (Ok pre x)) (h0 : I [] w) (Ax : α → Act → World → Prop) (hAx : ∀ x a', Abd w.heap.size (Ax x a'))
    (hassign : ∀ (l : Nat) (pre : List α) (x : α) (W : World) (K : Act → World → Prop), I pre W → Ok pre x W → (∀ a' W', Below W.heap.size W W' → Ax x a' W' → K a' W') →
      assign.wpIn (F.inRound l) (n - 1 - 1) P (Exit.then K (fun _ _ _ => False)) { tmps := (ps.zip (encs x)).foldl (fun t (p, v) => t.setIfInBounds p v) a.tmps, defers := [] } W)
    (hbody : ∀ (l : Nat) (pre : List α) (x : α) (a' : Act) (W : World), w.heap.size ≤ l → (∃ r, W.heap[l]? = some (.loop r)) → I pre W → Ok pre x W → Ax x a' W → body.wpIn (F.inRound l) (n - 1 - 1) P (rgPost l (S x) I Ix (pre ++ [x]) W) a' W)
    (hdone : ∀ (D : Nat) (xs : List α) (W : World), w.heap.size ≤ D → End xs → I xs W → W.heap[D]? = some (.deferred (some [])) → Q .normal { a with defers := { target := .collected D, args := #[] } :: a.defers } W)
    (hstop : ∀ (D : Nat) (c : Code) (pre : List α) (W : World), w.heap.size ≤ D → Ix c pre W → W.heap[D]? = some (.deferred (some [])) → c.wpIn F n P Q { a with defers := { target := .collected D, args := #[] } :: a.defers } W) :
    (Code.rangeFunc g ps assign body).wpIn F n P Q a w := by
  refine wpIn_rangeFunc ?_
  intro fn hfn
  rw [hro]
  obtain ⟨rec, hrec⟩ : ∃ rec : LoopState → Option Code → Loop, rec = fun st pe => { state := st, pending := pe, fn := fn, tmps := a.tmps, params := ps, assign := assign, body := body, defers := w.heap.size } := ⟨_, rfl⟩
  obtain ⟨W1, hW1⟩ : ∃ W1, (w.alloc (.deferred (some []))).alloc (.loop (rec .ready none)) = W1 := ⟨_, rfl⟩
  have hL1 : W1.heap[w.heap.size + 1]? = some (.loop (rec .ready none)) := by
    rw [← hW1]; have := World.alloc_heap_new (w.alloc (.deferred (some []))) (.loop (rec .ready none)); rwa [World.size_alloc] at this
  have hK1 : W1.heap[w.heap.size]? = some (.deferred (some [])) := by
    rw [← hW1]; exact (Below.heap_alloc _ _ _ (by simp)).trans (World.alloc_heap_new w _)
  have hb1 : Below w.heap.size w W1 := by
    rw [← hW1]; exact ((Below.refl _ w).alloc (Nat.le_refl _) _).alloc (by simp) _
  have hI1 : I [] W1 := (hI []).below _ _ h0 hb1
  refine ⟨w.heap.size + 1, [{ target := .collected w.heap.size, args := #[] }], W1, { target := .fn (.func gf) lb, args := pb ++ #[.func (.yield (w.heap.size + 1)) #[] #[]] }, W1, gf,
    pb ++ #[.func (.yield (w.heap.size + 1)) #[] #[]] ++ lb, W1, ?_, ?_, ?_, ?_, fun _ => h1, ?_⟩
  · rw [← hW1, hrec]; exact run_enterLoop_outer _ _ _ _ _
  · simp only [resolve, hg]
    simp [go_sem]
  · intro f' hf'; simp [Target.leads] at hf'; subst hf'; exact hFg
  · simp [invoke, go_sem, eg]
  · have keep : ∀ (W W' : World) (k : Nat) (o : Obj), W.heap[k]? = some o → Below W.heap.size W W' → W'.heap[k]? = some o := fun W W' k o h hb => (hb.block k (Array.getElem?_eq_some_iff.1 h).1).trans h
    refine (hseq (w.heap.size + 1)
      (fun pre W => I pre W ∧ W.heap[w.heap.size + 1]? = some (.loop (rec .ready none)) ∧ W.heap[w.heap.size]? = some (.deferred (some [])))
      (fun pre W => ∃ c, Ix c pre W ∧ W.heap[w.heap.size + 1]? = some (.loop (rec .done (some c))) ∧ W.heap[w.heap.size]? = some (.deferred (some [])))
      W1 hb1 (fun pre A C hs hb => ⟨(hI pre).below _ _ hs.1 hb, keep _ _ _ _ hs.2.1 hb, keep _ _ _ _ hs.2.2 hb⟩)
      (fun pre => ⟨((hI pre).mono hb1.size).and ((Abd.loopAt _ _ (Array.getElem?_eq_some_iff.1 hL1).1 _).and (Abd.dfr _ _ (Array.getElem?_eq_some_iff.1 hK1).1 _)),
        Abd.ex fun c => ((hIx c pre).mono hb1.size).and ((Abd.loopAt _ _ (Array.getElem?_eq_some_iff.1 hL1).1 _).and (Abd.dfr _ _ (Array.getElem?_eq_some_iff.1 hK1).1 _))⟩) ?_ ⟨hI1, hL1, hK1⟩).mono ?_
    · rintro pre x W ⟨hi, hl, hk⟩ hok
      refine YieldAt.mono (rg_round (n := n - 1 - 1) (P := P) (S := S) hfn (Nat.le_succ _) hps hI hIx hOk hAx hassign (fun l pre x a' W hl => hbody l pre x a' W (by omega)) pre x W hi hok hrec hl) ?_
      rintro e W' (⟨he, ⟨h2, h3, h4⟩, h5⟩ | ⟨he, ⟨c, h2, h3⟩, h5, h6⟩)
      · exact .inl ⟨he, ⟨h2, h3, h4 _ _ (by omega) hk rfl⟩, h5, ⟨h5.size, fun k o ho hb => (Classical.em (k = w.heap.size + 1)).elim (fun e => by subst e; rw [hl] at ho; cases ho; exact h3) fun hne => h4 k o hne ho hb⟩⟩
      · exact .inr ⟨he, ⟨c, h2, h3, h5.dfr _ _ hk⟩, h5, fun k r hk' ho => h6 k r (by have := (Array.getElem?_eq_some_iff.1 hL1).1; omega) ho⟩
    · rintro e W2 ⟨⟨v, rfl⟩, (⟨xs, hS, hi, hl, hk⟩ | ⟨pre, c, hi, hl, hk⟩)⟩
      · exact ⟨none, _, by have := run_endLoop (P := P) hl (by rw [hrec]; simp); rw [hrec] at this; exact this, hdone _ xs _ (Nat.le_refl _) hS ((hI xs).turn _ _ _ _ (by omega) hi hl) ((World.putObj_heap_other (by omega)).trans hk)⟩
      · exact ⟨some c, _, by have := run_endLoop (P := P) hl (by rw [hrec]; simp); rw [hrec] at this; exact this, hstop _ c pre _ (Nat.le_refl _) ((hIx c pre).turn _ _ _ _ (by omega) hi hl) ((World.putObj_heap_other (by omega)).trans hk)⟩
/-- The frame in a round is a function of what was handed out. -/
theorem rb_outA {g : Operand} {ps : Array Tmp} {assign body : Code} {Q : Exit → Act → World → Prop} {a : Act} {w : World}
    (hro : F.round = none) (h1 : 1 ≤ n) {gf : Nat} {pb lb : Array Value} (hg : a.eval g = .func (.func gf) pb lb) (hFg : F.fn gf) (eg : ∀ args w, (callFunc gf args).run P w = .ok (.enter gf args) w)
    {encs : α → Array Value} {S : α → Nat → Prop} {Ok : List α → α → World → Prop} {End : List α → Prop} (hseq : SeqB F (n - 1) P gf pb lb encs S Ok End w) (hps : ∀ x, (encs x).size = ps.size)
    (I : List α → World → Prop) (Ix : Code → List α → World → Prop) (hI : ∀ pre, Abd w.heap.size (I pre)) (hIx : ∀ c pre, Abd w.heap.size (Ix c pre)) (hOk : ∀ pre x, Abd w.heap.size (Ok pre x)) (h0 : I [] w) {A : α → Act}
    (hassign : ∀ (l : Nat) (pre : List α) (x : α) (W : World) (K : Act → World → Prop), I pre W → Ok pre x W → (∀ a', a' = A x → K a' W) →
      assign.wpIn (F.inRound l) (n - 1 - 1) P (Exit.then K (fun _ _ _ => False)) { tmps := (ps.zip (encs x)).foldl (fun t (p, v) => t.setIfInBounds p v) a.tmps, defers := [] } W)
    (hbody : ∀ (l : Nat) (pre : List α) (x : α) (W : World), w.heap.size ≤ l → (∃ r, W.heap[l]? = some (.loop r)) → I pre W → Ok pre x W → body.wpIn (F.inRound l) (n - 1 - 1) P (rgPost l (S x) I Ix (pre ++ [x]) W) (A x) W)
    (hdone : ∀ (D : Nat) (xs : List α) (W : World), w.heap.size ≤ D → End xs → I xs W → W.heap[D]? = some (.deferred (some [])) → Q .normal { a with defers := { target := .collected D, args := #[] } :: a.defers } W)
    (hstop : ∀ (D : Nat) (c : Code) (pre : List α) (W : World), w.heap.size ≤ D → Ix c pre W → W.heap[D]? = some (.deferred (some [])) → c.wpIn F n P Q { a with defers := { target := .collected D, args := #[] } :: a.defers } W) :
    (Code.rangeFunc g ps assign body).wpIn F n P Q a w :=
  rb_out hro h1 hg hFg eg hseq hps I Ix hI hIx hOk h0 (fun x a' _ => a' = A x) (fun _ _ => Abd.pure _ _)
    (fun l pre x W K hi ho hK => hassign l pre x W K hi ho fun a' ha => hK a' W (Below.refl _ _) ha)
    (fun l pre x a' W hl hr hi ho ha => by subst ha; exact hbody l pre x W hl hr hi ho) hdone hstop
end
end Go.Proofs.YtbcileppebpamaaGreatDoor
set_option linter.unusedSimpArgs false
set_option linter.unusedVariables false
namespace Go.Proofs.YtbcileppebpamaaGreatDoor
open Go Go.RowKit Go.Shelf
set_option maxRecDepth 100000
/-- A deviant: the person, the kind, the lines. -/
structure Dv where
  p : Nat
  k : Int
  s : Nat
  l : Nat
def Dv.enc (d : Dv) : Value := .agg #[.int .i64 ((d.p : Nat) : Int), .int .i64 d.k, .int .i64 ((d.s : Nat) : Int), .int .i64 ((d.l : Nat) : Int)]
def devOf (cl i : Nat) (x : PS) : Option Dv := if 0 < x.o ∧ x.r = false then some ⟨i + 1, 1, x.s, x.o⟩ else if x.o = 0 ∧ 0 < cl then some ⟨i + 1, 2, x.s, cl⟩ else none
def devFrom (cl : Nat) : Nat → List PS → List Dv
  | _, [] => []
  | i, x :: l => (devOf cl i x).toList ++ devFrom cl (i + 1) l
def DS.devs (D : DS) : List Dv := devFrom D.cl 0 D.ps
theorem devFrom_app (cl : Nat) : ∀ (l m : List PS) (i : Nat), devFrom cl i (l ++ m) = devFrom cl i l ++ devFrom cl (i + l.length) m
  | [], m, i => by simp [devFrom]
  | x :: l, m, i => by
    rw [List.cons_append, devFrom, devFrom, devFrom_app cl l m (i + 1), List.append_assoc, List.length_cons, show i + 1 + l.length = i + (l.length + 1) from by omega]
theorem devFrom_take (cl : Nat) (ps : List PS) (i : Nat) (x : PS) (h : ps[i]? = some x) : devFrom cl 0 (ps.take (i + 1)) = devFrom cl 0 (ps.take i) ++ (devOf cl i x).toList := by
  have hi := (List.getElem?_eq_some_iff.1 h).1
  rw [List.take_add_one, h, devFrom_app]
  rw [List.length_take, Nat.zero_add, Nat.min_eq_left (Nat.le_of_lt hi)]
  simp [devFrom]
theorem devFrom_split (cl : Nat) (ps : List PS) (i : Nat) (x : PS) (h : ps[i]? = some x) : devFrom cl 0 ps = devFrom cl 0 (ps.take i) ++ ((devOf cl i x).toList ++ devFrom cl (i + 1) (ps.drop (i + 1))) := by
  have hi := (List.getElem?_eq_some_iff.1 h).1
  have e : ps = ps.take i ++ x :: ps.drop (i + 1) := by
    have := List.getElem_cons_drop hi
    rw [(List.getElem?_eq_some_iff.1 h).2] at this
    rw [this, List.take_append_drop]
  conv => lhs; rw [e]
  rw [devFrom_app, devFrom, List.length_take, Nat.zero_add, Nat.min_eq_left (Nat.le_of_lt hi)]
/-- Box and persons of a drawing. -/
structure DevAt (W : World) (b q : Nat) (D : DS) : Prop where
  box : ∃ vl, W.heap[b]? = some (.cells (boxV vl q D) 100 (0, 0))
  row : W.heap[q]? = some (.cells (encP D.ps) 114 (0, 0))
theorem DrawAt.dev {W : World} {B b q : Nat} {D : DS} (h : DrawAt W B b q D) : DevAt W b q D := ⟨let ⟨vl, h1, _⟩ := h.box; ⟨vl, h1⟩, h.row⟩
theorem DevAt.below {W W' : World} {b q : Nat} {D : DS} (h : DevAt W b q D) (hb : Below W.heap.size W W') : DevAt W' b q D :=
  ⟨let ⟨vl, h1⟩ := h.box; ⟨vl, heap_below hb h1 (heap_lt h1)⟩, heap_below hb h.row (heap_lt h.row)⟩
theorem DevAt.kept {W W' : World} {b q : Nat} {D : DS} (h : DevAt W b q D) (hk : KeptS (fun k => k = b ∨ k = q) W W') : DevAt W' b q D :=
  ⟨let ⟨vl, h1⟩ := h.box; ⟨vl, hk.app b (.inl rfl) _ h1 rfl⟩, hk.app q (.inr rfl) _ h.row rfl⟩
theorem DevAt.b2 {V : World} {b q : Nat} {D : DS} (h : DevAt V b q D) : V.cell? ⟨b, 2, none⟩ = some (.slice (some ⟨q, 0, none⟩) D.ps.length D.ps.length) := by
  obtain ⟨vl, h1⟩ := h.box
  exact cell_of_row _ _ 2 _ _ _ h1
theorem DevAt.b5 {V : World} {b q : Nat} {D : DS} (h : DevAt V b q D) : V.cell? ⟨b, 5, none⟩ = some (.int .i64 ((D.cl : Nat) : Int)) := by
  obtain ⟨vl, h1⟩ := h.box
  exact cell_of_row _ _ 5 _ _ _ h1
theorem DevAt.b1 {V : World} {b q : Nat} {D : DS} (h : DevAt V b q D) : V.cell? ⟨b, 1, none⟩ = some (.int .i64 ((D.below : Nat) : Int)) := by
  obtain ⟨vl, h1⟩ := h.box
  exact cell_of_row _ _ 1 _ _ _ h1
theorem DevAt.cell {V : World} {b q : Nat} {D : DS} (h : DevAt V b q D) {i : Nat} {x : PS} (hx : D.ps[i]? = some x) (k : Nat) (hk : k < 5) : V.cell? ⟨q, i * 5 + k, none⟩ = x.enc[k]? := by
  rw [cell_of_row _ _ _ _ _ _ h.row, Nat.mul_comm]
  exact encP_get _ _ _ hx k hk
theorem exec_fldV {ev : Operand → Value} {o : Oper} {x : Operand} {b : Nat} {W : World} (k : Nat) (ho : o.op = .fieldAddr 124 x k) (hx : ev x = .pointer (some ⟨b, 0, none⟩)) (hk : k = 0 ∨ k = 1 ∨ k = 2 ∨ k = 3) : (execOp ev o).run Tryz.prog W = .ok (.value (.pointer (some ⟨b, k, none⟩))) W := by
  rcases hk with rfl | rfl | rfl | rfl <;> simp [execOp, ho, hx] <;> go_simp
theorem cell_same {W W' : World} {b i : Nat} (h : W'.heap[b]? = W.heap[b]?) : W'.cell? ⟨b, i, none⟩ = W.cell? ⟨b, i, none⟩ := by
  simp [World.cell?, h]
def Nxt {α : Type} (L : List α) (pre : List α) (x : α) (_ : World) : Prop := ∃ rest, L = pre ++ x :: rest
attribute [local go_sem] Oper.semAt_some
set_option maxHeartbeats 4000000 in
theorem dev_seq (n : Nat) (hn : 1 ≤ n) (b q : Nat) (D : DS) (hps : D.ps.length ≤ 30) (w : World) (hw : DevAt w b q D) :
    SeqB Fence.wide n Tryz.prog 62 #[.pointer (some ⟨b, 0, none⟩)] #[] (fun d : Dv => #[d.enc]) (fun _ k => k = b ∨ k = q) (Nxt D.devs) (fun xs => xs = D.devs) w := by
  intro l J Jx W hW hJ hJx hY h0
  have hA := hw.below hW
  have HY := hid hY
  have HJ := hid hJ
  have k2 := hA.b2
  obtain ⟨m, hm⟩ : ∃ m, D.ps.length = m := ⟨_, rfl⟩
  rw [hm] at k2
  have HM := hid hm
  have HA := hid hA
  have H0 := hid h0
  have hm30 : m ≤ 30 := by omega
  refine callsIn_of_wp Tryz.func62 rfl trivial ?_ rfl
  simp only [Tryz.ntmps62, List.size_toArray, List.length_cons, List.length_nil, Nat.reduceAdd, Nat.reduceSub, Array.replicate_succ, Array.replicate_zero, List.push_toArray, List.append_toArray, List.nil_append, List.cons_append, List.append_nil]
  clear hY hJ hw hA hm h0
  gi_wp2_with fail
  gi_loopw [12] (fun ix wr => ∃ i : Nat, i ≤ m ∧ ix = .int .i64 i ∧ DevAt wr b q D ∧ J (devFrom D.cl 0 (D.ps.take i)) wr) (fun ix _ => m - (intOf ix).toNat)
  case atStart => exact ⟨0, by omega, rfl, HA.out, by simpa [devFrom] using H0.out⟩
  case round =>
    clear HA k2 H0
    obtain ⟨i, hi, rfl, hA, hj⟩ := hrel
    by_cases hlt : i < m
    · have hlt' : ((i : Nat) : Int) < m := by omega
      have hi0 : (0 : Int) ≤ i := by omega
      obtain ⟨x, hx⟩ : ∃ x, D.ps[i]? = some x := ⟨_, List.getElem?_eq_getElem (by rw [HM.out]; exact hlt)⟩
      have f0 := hA.cell hx 0 (by omega)
      have f1 := hA.cell hx 1 (by omega)
      have f2 := hA.cell hx 2 (by omega)
      have f3 := hA.cell hx 3 (by omega)
      have f4 := hA.cell hx 4 (by omega)
      rw [Nat.add_zero] at f0
      change _ = some (Value.string x.h) at f0
      change _ = some (Value.int .i64 x.v) at f1
      change _ = some (Value.int .i64 ((x.s : Nat) : Int)) at f2
      change _ = some (Value.int .i64 ((x.o : Nat) : Int)) at f3
      change _ = some (Value.bool x.r) at f4
      have k5 := hA.b5
      have HX := hid hx
      have hblt : b < wr.heap.size := by obtain ⟨vl, h1⟩ := hA.box; exact heap_lt h1
      have HA := hid hA
      have HJJ := hid hj
      obtain ⟨i1, hi1⟩ : ∃ i1, i + 1 = i1 := ⟨_, rfl⟩
      have hw1 : IntKind.i64.wrap (((i : Nat) : Int) + 1) = ((i1 : Nat) : Int) := (IntWalk.i64_in _ (by omega)).trans (by omega)
      have HI1 := hid hi1
      clear hx hA hj hi1
      by_cases hc : 0 < x.o
      · have d1 : decide ((0 : Int) < ((x.o : Nat) : Int)) = true := decide_eq_true (by omega)
        have d2 : (((x.o : Nat) : Int) == 0) = false := by simp; omega
        cases hr : x.r with
        | false =>
          rw [hr] at f4
          have hdev : devOf D.cl i x = some ⟨i1, 1, x.s, x.o⟩ := by rw [← HI1.out]; simp [devOf, hc, hr]
          have HDV := hid hdev
          clear hr hdev
          gi_upto_region 5 with fail
          have hx5 : ((wr.alloc (.cells #[.string x.h, .int .i64 x.v, .int .i64 ((x.s : Nat) : Int), .int .i64 ((x.o : Nat) : Int), .bool false] 114)).alloc (.cells #[.int .i64 ((i1 : Nat) : Int), .int .i64 0, .int .i64 ((x.s : Nat) : Int), .int .i64 0] 124)).heap[wr.heap.size]? = some (.cells #[.string x.h, .int .i64 x.v, .int .i64 ((x.s : Nat) : Int), .int .i64 ((x.o : Nat) : Int), .bool false] 114 (0, 0)) := by
            rw [heap_alloc_old _ _ (heap_lt (heap_alloc_new wr _))]
            exact heap_alloc_new wr _
          have hx6 := heap_alloc_new (wr.alloc (.cells #[.string x.h, .int .i64 x.v, .int .i64 ((x.s : Nat) : Int), .int .i64 ((x.o : Nat) : Int), .bool false] 114)) (.cells #[.int .i64 ((i1 : Nat) : Int), .int .i64 0, .int .i64 ((x.s : Nat) : Int), .int .i64 0] 124)
          rw [show (wr.alloc (.cells #[.string x.h, .int .i64 x.v, .int .i64 ((x.s : Nat) : Int), .int .i64 ((x.o : Nat) : Int), .bool false] 114)).heap.size = wr.heap.size + 1 from by simp] at hx6
          have hbv : Below wr.heap.size wr ((wr.alloc (.cells #[.string x.h, .int .i64 x.v, .int .i64 ((x.s : Nat) : Int), .int .i64 ((x.o : Nat) : Int), .bool false] 114)).alloc (.cells #[.int .i64 ((i1 : Nat) : Int), .int .i64 0, .int .i64 ((x.s : Nat) : Int), .int .i64 0] 124)) := ((Below.refl _ _).alloc (Nat.le_refl _) _).alloc (by simp) _
          generalize (wr.alloc (.cells #[.string x.h, .int .i64 x.v, .int .i64 ((x.s : Nat) : Int), .int .i64 ((x.o : Nat) : Int), .bool false] 114)).alloc (.cells #[.int .i64 ((i1 : Nat) : Int), .int .i64 0, .int .i64 ((x.s : Nat) : Int), .int .i64 0] 124) = Va at hx5 hx6 hbv ⊢
          obtain ⟨g1, hg1⟩ : ∃ g1, wr.heap.size = g1 := ⟨_, rfl⟩
          obtain ⟨g2, hg2⟩ : ∃ g2, g1 + 1 = g2 := ⟨_, rfl⟩
          rw [hg1] at hx5 hx6 hbv ⊢
          rw [hg2] at hx6 ⊢
          have HGG := hid (And.intro hg1 hg2)
          have hne : g1 ≠ g2 := by omega
          clear hg1 hg2 f0 f1 f2 f3 f4
          refine regD_in lets_wide (fun V => V.heap[g1]? = some (.cells #[.string x.h, .int .i64 x.v, .int .i64 ((x.s : Nat) : Int), .int .i64 ((x.o : Nat) : Int), .bool false] 114 (0, 0))) (fun _ => true) (by kernel_rfl) (by kernel_rfl) ?_
          have hS : Va.drew.heap[g1]? = some (.cells #[.string x.h, .int .i64 x.v, .int .i64 ((x.s : Nat) : Int), .int .i64 ((x.o : Nat) : Int), .bool false] 114 (0, 0)) := hx5
          change Va.drew.heap[g2]? = _ at hx6
          change Va.drew.heap[g1]? = _ at hx5
          have hbd : Below g1 wr Va.drew := ⟨hbv.os, hbv.tape, hbv.output, hbv.size, hbv.block⟩
          clear hbv
          have hbv := hbd
          clear hbd
          generalize Va.drew = V0 at hx5 hx6 hS hbv ⊢
          refine takeE (i := 0) (.pointer (some ⟨g1, 3, none⟩)) (d := some 31) rfl (by kernel_rfl) (by kernel_rfl) (by kernel_rfl) (by kernel_rfl) (fun _ _ _ h => h) rfl (fun W hSw => by exact exec_fldP 3 rfl rfl (by simp)) hS rfl ?_
          simp only [Act.put, List.setIfInBounds_toArray, List.set_cons_zero, List.set_cons_succ]
          refine takeE (i := 1) (.int .i64 ((x.o : Nat) : Int)) (d := some 32) rfl (by kernel_rfl) (by kernel_rfl) (by kernel_rfl) (by kernel_rfl) (fun _ _ _ h => h) rfl (fun W hSw => by exact exec_ldcellB rfl rfl (cell_of_row _ _ 3 _ _ _ hSw)) hS rfl ?_
          simp only [Act.put, List.setIfInBounds_toArray, List.set_cons_zero, List.set_cons_succ]
          refine takeE (i := 2) (.pointer (some ⟨g2, 1, none⟩)) (d := some 33) rfl (by kernel_rfl) (by kernel_rfl) (by kernel_rfl) (by kernel_rfl) (fun _ _ _ h => h) rfl (fun W hSw => by exact exec_fldV 1 rfl rfl (by simp)) hS rfl ?_
          simp only [Act.put, List.setIfInBounds_toArray, List.set_cons_zero, List.set_cons_succ]
          have hfz := frozen_of_row _ _ 1 _ _ hx6
          have hk6 := cell_of_row _ _ 1 _ _ _ hx6
          refine stepD 3 (by kernel_rfl) rfl rfl (fun K hK => ?_)
          go_simp
          refine hK _ _ (fun _ => (heap_setCell_other _ _ g1 _ hne).trans hx5) ?_
          clear hK K
          have hx7 : (V0.setCell ⟨g2, 1, none⟩ (.int .i64 1)).heap[g2]? = some (.cells #[.int .i64 ((i1 : Nat) : Int), .int .i64 1, .int .i64 ((x.s : Nat) : Int), .int .i64 0] 124 (0, 0)) := by
            have e := heap_setCell_same V0 g2 1 _ _ (.int .i64 1) hx6
            exact e
          have hbv7 : Below g1 wr (V0.setCell ⟨g2, 1, none⟩ (.int .i64 1)) := Below.setCell hbv (by show g1 ≤ g2; have := HGG.out.2; omega) _
          have hS7 : (V0.setCell ⟨g2, 1, none⟩ (.int .i64 1)).heap[g1]? = some (.cells #[.string x.h, .int .i64 x.v, .int .i64 ((x.s : Nat) : Int), .int .i64 ((x.o : Nat) : Int), .bool false] 114 (0, 0)) := (heap_setCell_other _ _ g1 _ hne).trans hx5
          generalize V0.setCell ⟨g2, 1, none⟩ (.int .i64 1) = V1 at hx7 hbv7 hS7 ⊢
          clear hS
          clear hfz hk6
          refine stepD 4 (by kernel_rfl) rfl rfl (fun K hK => ?_)
          go_simp
          refine hK _ _ (fun _ => hS7) ?_
          clear hK K
          have hfz := frozen_of_row _ _ 3 _ _ hx7
          have hk6 := cell_of_row _ _ 3 _ _ _ hx7
          refine stepD 5 (by kernel_rfl) rfl rfl (fun K hK => ?_)
          go_simp
          refine hK _ _ (fun _ => (heap_setCell_other _ _ g1 _ hne).trans hS7) ?_
          clear hK K
          have hx8 : (V1.setCell ⟨g2, 3, none⟩ (.int .i64 ((x.o : Nat) : Int))).heap[g2]? = some (.cells #[.int .i64 ((i1 : Nat) : Int), .int .i64 1, .int .i64 ((x.s : Nat) : Int), .int .i64 ((x.o : Nat) : Int)] 124 (0, 0)) := by
            have e := heap_setCell_same V1 g2 3 _ _ (.int .i64 ((x.o : Nat) : Int)) hx7
            exact e
          have hbv8 : Below g1 wr (V1.setCell ⟨g2, 3, none⟩ (.int .i64 ((x.o : Nat) : Int))) := Below.setCell hbv7 (by show g1 ≤ g2; have := HGG.out.2; omega) _
          generalize V1.setCell ⟨g2, 3, none⟩ (.int .i64 ((x.o : Nat) : Int)) = V2 at hx8 hbv8 ⊢
          clear hfz hk6 hS7
          refine doneD (by kernel_rfl) ?_ _
          refine OnlyNorm.normal ?_
          rename_i Q' K1 hK1 K hK
          change K _ _
          refine hK _ _ ?_
          clear hK K
          have HB8 := hid (HGG.out.1 ▸ hbv8 : Below wr.heap.size wr V2)
          have e0 := cell_of_row _ _ 0 _ _ _ hx8
          have e1 := cell_of_row _ _ 1 _ _ _ hx8
          have e2 := cell_of_row _ _ 2 _ _ _ hx8
          have e3 := cell_of_row _ _ 3 _ _ _ hx8
          have hnx : Nxt D.devs (devFrom D.cl 0 (D.ps.take i)) ⟨i1, 1, x.s, x.o⟩ V2 := ⟨devFrom D.cl (i + 1) (D.ps.drop (i + 1)), by
            have e := devFrom_split D.cl D.ps i x HX.out
            rw [HDV.out] at e
            exact e⟩
          have hst : devFrom D.cl 0 (D.ps.take i) ++ [⟨i1, 1, x.s, x.o⟩] = devFrom D.cl 0 (D.ps.take (i + 1)) := by rw [devFrom_take D.cl D.ps i x HX.out, HDV.out]; rfl
          obtain ⟨fn, tmps, assign, body, hy, hR⟩ := HY.out _ _ _ (HJ.out _ _ _ HJJ.out HB8.out) hnx
          rw [hst] at hR
          have hA2 := HA.out.below HB8.out
          have HA2 := hid hA2
          have HR := hid hR
          simp only [Dv.enc] at hy
          clear hst hnx hR hbv8 hbv7 hbv hx5 hx6 hx7 hx8 k5 hA2
          gi_wp2_with fail
          refine HR.out.mono ?_
          clear HR HY HJ hy e0 e1 e2 e3
          rintro e w3 (⟨rfl, hJ3, hk3, -⟩ | ⟨rfl, hJ3, -⟩)
          · have HA3 := hid (HA2.out.kept hk3)
            have HJ3 := hid hJ3
            clear hJ3 hk3
            gi_wp2_with fail
            go_roundw
            case rel => exact ⟨i + 1, by omega, by rw [← HI1.out], HA3.out, HJ3.out⟩
            case measure => have := HI1.out; simp [intOf]; omega
          · have HJ3 := hid hJ3
            clear hJ3
            gi_wp2_with fail
            refine bodyPost_ret (results_none rfl _ _ _) rfl ?_
            exact ⟨⟨_, rfl⟩, .stop _ HJ3.out⟩
        | true =>
          rw [hr] at f4
          have hdev : devOf D.cl i x = none := by simp [devOf, hr]; omega
          have HDV := hid hdev
          clear hr hdev
          have hbv : Below wr.heap.size wr ((wr.alloc (.cells #[.string x.h, .int .i64 x.v, .int .i64 ((x.s : Nat) : Int), .int .i64 ((x.o : Nat) : Int), .bool true] 114)).alloc (.cells #[.int .i64 ((i1 : Nat) : Int), .int .i64 0, .int .i64 ((x.s : Nat) : Int), .int .i64 0] 124)) := ((Below.refl _ _).alloc (Nat.le_refl _) _).alloc (by simp) _
          have HA2 := hid (HA.out.below hbv)
          have HJ2 := hid (HJ.out _ _ _ HJJ.out hbv)
          have hst : devFrom D.cl 0 (D.ps.take (i + 1)) = devFrom D.cl 0 (D.ps.take i) := by rw [devFrom_take D.cl D.ps i x HX.out, HDV.out]; simp
          rw [← hst] at HJ2
          clear hst hbv
          gi_wp2_with fail
          go_roundw
          case rel => exact ⟨i + 1, by omega, by rw [← HI1.out], HA2.out, HJ2.out⟩
          case measure => have := HI1.out; simp [intOf]; omega
      · have d1 : decide ((0 : Int) < ((x.o : Nat) : Int)) = false := decide_eq_false (by omega)
        have d2 : (((x.o : Nat) : Int) == 0) = true := by simp; omega
        by_cases hcl : 0 < D.cl
        · have d3 : decide ((0 : Int) < ((D.cl : Nat) : Int)) = true := decide_eq_true (by omega)
          have hdev : devOf D.cl i x = some ⟨i1, 2, x.s, D.cl⟩ := by rw [← HI1.out]; simp [devOf, hc, hcl]; omega
          have HDV := hid hdev
          clear hdev
          gi_upto_region 7 with fail
          have hx5 : ((wr.alloc (.cells #[.string x.h, .int .i64 x.v, .int .i64 ((x.s : Nat) : Int), .int .i64 ((x.o : Nat) : Int), .bool x.r] 114)).alloc (.cells #[.int .i64 ((i1 : Nat) : Int), .int .i64 0, .int .i64 ((x.s : Nat) : Int), .int .i64 0] 124)).cell? ⟨b, 5, none⟩ = some (.int .i64 ((D.cl : Nat) : Int)) := (HA.out.below (((Below.refl _ _).alloc (Nat.le_refl _) _).alloc (by simp) _)).b5
          have hx6 := heap_alloc_new (wr.alloc (.cells #[.string x.h, .int .i64 x.v, .int .i64 ((x.s : Nat) : Int), .int .i64 ((x.o : Nat) : Int), .bool x.r] 114)) (.cells #[.int .i64 ((i1 : Nat) : Int), .int .i64 0, .int .i64 ((x.s : Nat) : Int), .int .i64 0] 124)
          rw [show (wr.alloc (.cells #[.string x.h, .int .i64 x.v, .int .i64 ((x.s : Nat) : Int), .int .i64 ((x.o : Nat) : Int), .bool x.r] 114)).heap.size = wr.heap.size + 1 from by simp] at hx6
          have hbv : Below wr.heap.size wr ((wr.alloc (.cells #[.string x.h, .int .i64 x.v, .int .i64 ((x.s : Nat) : Int), .int .i64 ((x.o : Nat) : Int), .bool x.r] 114)).alloc (.cells #[.int .i64 ((i1 : Nat) : Int), .int .i64 0, .int .i64 ((x.s : Nat) : Int), .int .i64 0] 124)) := ((Below.refl _ _).alloc (Nat.le_refl _) _).alloc (by simp) _
          generalize (wr.alloc (.cells #[.string x.h, .int .i64 x.v, .int .i64 ((x.s : Nat) : Int), .int .i64 ((x.o : Nat) : Int), .bool x.r] 114)).alloc (.cells #[.int .i64 ((i1 : Nat) : Int), .int .i64 0, .int .i64 ((x.s : Nat) : Int), .int .i64 0] 124) = Va at hx5 hx6 hbv ⊢
          obtain ⟨g1, hg1⟩ : ∃ g1, wr.heap.size = g1 := ⟨_, rfl⟩
          obtain ⟨g2, hg2⟩ : ∃ g2, g1 + 1 = g2 := ⟨_, rfl⟩
          rw [hg1] at hx6 hbv ⊢
          rw [hg2] at hx6 ⊢
          have HGG := hid (And.intro hg1 hg2)
          have hne : g1 ≠ g2 := by omega
          have hbg : b ≠ g2 := by omega
          clear hg1 hg2 f0 f1 f2 f3 f4
          refine regD_in lets_wide (fun V => V.cell? ⟨b, 5, none⟩ = some (.int .i64 ((D.cl : Nat) : Int))) (fun _ => true) (by kernel_rfl) (by kernel_rfl) ?_
          have hS : Va.drew.cell? ⟨b, 5, none⟩ = some (.int .i64 ((D.cl : Nat) : Int)) := hx5
          change Va.drew.heap[g2]? = _ at hx6
          change Va.drew.cell? _ = _ at hx5
          have hbd : Below g1 wr Va.drew := ⟨hbv.os, hbv.tape, hbv.output, hbv.size, hbv.block⟩
          clear hbv
          have hbv := hbd
          clear hbd
          generalize Va.drew = V0 at hx5 hx6 hS hbv ⊢
          refine takeE (i := 0) (.pointer (some ⟨b, 0, none⟩)) (d := some 46) rfl (by kernel_rfl) (by kernel_rfl) (by kernel_rfl) (by kernel_rfl) (fun _ _ _ h => h) rfl (fun W hSw => by exact exec_mv rfl rfl) hS rfl ?_
          simp only [Act.put, List.setIfInBounds_toArray, List.set_cons_zero, List.set_cons_succ]
          refine takeE (i := 1) (.pointer (some ⟨b, 0, none⟩)) (d := some 47) rfl (by kernel_rfl) (by kernel_rfl) (by kernel_rfl) (by kernel_rfl) (fun _ _ _ h => h) rfl (fun W hSw => by exact exec_nilP rfl rfl) hS rfl ?_
          simp only [Act.put, List.setIfInBounds_toArray, List.set_cons_zero, List.set_cons_succ]
          refine takeE (i := 2) (.pointer (some ⟨b, 5, none⟩)) (d := some 48) rfl (by kernel_rfl) (by kernel_rfl) (by kernel_rfl) (by kernel_rfl) (fun _ _ _ h => h) rfl (fun W hSw => by exact exec_fldD 5 rfl rfl (by simp)) hS rfl ?_
          simp only [Act.put, List.setIfInBounds_toArray, List.set_cons_zero, List.set_cons_succ]
          refine takeE (i := 3) (.int .i64 ((D.cl : Nat) : Int)) (d := some 49) rfl (by kernel_rfl) (by kernel_rfl) (by kernel_rfl) (by kernel_rfl) (fun _ _ _ h => h) rfl (fun W hSw => by exact exec_ldcellB rfl rfl hSw) hS rfl ?_
          simp only [Act.put, List.setIfInBounds_toArray, List.set_cons_zero, List.set_cons_succ]
          refine takeE (i := 4) (.pointer (some ⟨g2, 1, none⟩)) (d := some 50) rfl (by kernel_rfl) (by kernel_rfl) (by kernel_rfl) (by kernel_rfl) (fun _ _ _ h => h) rfl (fun W hSw => by exact exec_fldV 1 rfl rfl (by simp)) hS rfl ?_
          simp only [Act.put, List.setIfInBounds_toArray, List.set_cons_zero, List.set_cons_succ]
          have hfz := frozen_of_row _ _ 1 _ _ hx6
          have hk6 := cell_of_row _ _ 1 _ _ _ hx6
          refine stepD 5 (by kernel_rfl) rfl rfl (fun K hK => ?_)
          go_simp
          refine hK _ _ (fun _ => (cell_same (heap_setCell_other _ _ b _ hbg)).trans hx5) ?_
          clear hK K
          have hx7 : (V0.setCell ⟨g2, 1, none⟩ (.int .i64 2)).heap[g2]? = some (.cells #[.int .i64 ((i1 : Nat) : Int), .int .i64 2, .int .i64 ((x.s : Nat) : Int), .int .i64 0] 124 (0, 0)) := by
            have e := heap_setCell_same V0 g2 1 _ _ (.int .i64 2) hx6
            exact e
          have hbv7 : Below g1 wr (V0.setCell ⟨g2, 1, none⟩ (.int .i64 2)) := Below.setCell hbv (by show g1 ≤ g2; have := HGG.out.2; omega) _
          have hS7 : (V0.setCell ⟨g2, 1, none⟩ (.int .i64 2)).cell? ⟨b, 5, none⟩ = some (.int .i64 ((D.cl : Nat) : Int)) := (cell_same (heap_setCell_other _ _ b _ hbg)).trans hx5
          generalize V0.setCell ⟨g2, 1, none⟩ (.int .i64 2) = V1 at hx7 hbv7 hS7 ⊢
          clear hS
          clear hfz hk6
          refine stepD 6 (by kernel_rfl) rfl rfl (fun K hK => ?_)
          go_simp
          refine hK _ _ (fun _ => hS7) ?_
          clear hK K
          have hfz := frozen_of_row _ _ 3 _ _ hx7
          have hk6 := cell_of_row _ _ 3 _ _ _ hx7
          refine stepD 7 (by kernel_rfl) rfl rfl (fun K hK => ?_)
          go_simp
          refine hK _ _ (fun _ => (cell_same (heap_setCell_other _ _ b _ hbg)).trans hS7) ?_
          clear hK K
          have hx8 : (V1.setCell ⟨g2, 3, none⟩ (.int .i64 ((D.cl : Nat) : Int))).heap[g2]? = some (.cells #[.int .i64 ((i1 : Nat) : Int), .int .i64 2, .int .i64 ((x.s : Nat) : Int), .int .i64 ((D.cl : Nat) : Int)] 124 (0, 0)) := by
            have e := heap_setCell_same V1 g2 3 _ _ (.int .i64 ((D.cl : Nat) : Int)) hx7
            exact e
          have hbv8 : Below g1 wr (V1.setCell ⟨g2, 3, none⟩ (.int .i64 ((D.cl : Nat) : Int))) := Below.setCell hbv7 (by show g1 ≤ g2; have := HGG.out.2; omega) _
          generalize V1.setCell ⟨g2, 3, none⟩ (.int .i64 ((D.cl : Nat) : Int)) = V2 at hx8 hbv8 ⊢
          clear hfz hk6 hS7
          refine doneD (by kernel_rfl) ?_ _
          refine OnlyNorm.normal ?_
          rename_i Q' K1 hK1 K hK
          change K _ _
          refine hK _ _ ?_
          clear hK K
          have HB8 := hid (HGG.out.1 ▸ hbv8 : Below wr.heap.size wr V2)
          have e0 := cell_of_row _ _ 0 _ _ _ hx8
          have e1 := cell_of_row _ _ 1 _ _ _ hx8
          have e2 := cell_of_row _ _ 2 _ _ _ hx8
          have e3 := cell_of_row _ _ 3 _ _ _ hx8
          have hnx : Nxt D.devs (devFrom D.cl 0 (D.ps.take i)) ⟨i1, 2, x.s, D.cl⟩ V2 := ⟨devFrom D.cl (i + 1) (D.ps.drop (i + 1)), by
            have e := devFrom_split D.cl D.ps i x HX.out
            rw [HDV.out] at e
            exact e⟩
          have hst : devFrom D.cl 0 (D.ps.take i) ++ [⟨i1, 2, x.s, D.cl⟩] = devFrom D.cl 0 (D.ps.take (i + 1)) := by rw [devFrom_take D.cl D.ps i x HX.out, HDV.out]; rfl
          obtain ⟨fn, tmps, assign, body, hy, hR⟩ := HY.out _ _ _ (HJ.out _ _ _ HJJ.out HB8.out) hnx
          rw [hst] at hR
          have hA2 := HA.out.below HB8.out
          have HA2 := hid hA2
          have HR := hid hR
          simp only [Dv.enc] at hy
          clear hst hnx hR hbv8 hbv7 hbv hx5 hx6 hx7 hx8 k5 hA2
          gi_wp2_with fail
          refine HR.out.mono ?_
          clear HR HY HJ hy e0 e1 e2 e3
          rintro e w3 (⟨rfl, hJ3, hk3, -⟩ | ⟨rfl, hJ3, -⟩)
          · have HA3 := hid (HA2.out.kept hk3)
            have HJ3 := hid hJ3
            clear hJ3 hk3
            gi_wp2_with fail
            go_roundw
            case rel => exact ⟨i + 1, by omega, by rw [← HI1.out], HA3.out, HJ3.out⟩
            case measure => have := HI1.out; simp [intOf]; omega
          · have HJ3 := hid hJ3
            clear hJ3
            gi_wp2_with fail
            refine bodyPost_ret (results_none rfl _ _ _) rfl ?_
            exact ⟨⟨_, rfl⟩, .stop _ HJ3.out⟩
        · have d3 : decide ((0 : Int) < ((D.cl : Nat) : Int)) = false := decide_eq_false (by omega)
          have hdev : devOf D.cl i x = none := by simp [devOf, hc]; omega
          have HDV := hid hdev
          clear hdev
          have hbv : Below wr.heap.size wr ((wr.alloc (.cells #[.string x.h, .int .i64 x.v, .int .i64 ((x.s : Nat) : Int), .int .i64 ((x.o : Nat) : Int), .bool x.r] 114)).alloc (.cells #[.int .i64 ((i1 : Nat) : Int), .int .i64 0, .int .i64 ((x.s : Nat) : Int), .int .i64 0] 124)) := ((Below.refl _ _).alloc (Nat.le_refl _) _).alloc (by simp) _
          have HA2 := hid (HA.out.below hbv)
          have HJ2 := hid (HJ.out _ _ _ HJJ.out hbv)
          have hst : devFrom D.cl 0 (D.ps.take (i + 1)) = devFrom D.cl 0 (D.ps.take i) := by rw [devFrom_take D.cl D.ps i x HX.out, HDV.out]; simp
          rw [← hst] at HJ2
          clear hst hbv
          gi_wp2_with fail
          go_roundw
          case rel => exact ⟨i + 1, by omega, by rw [← HI1.out], HA2.out, HJ2.out⟩
          case measure => have := HI1.out; simp [intOf]; omega
    · have hge : ¬ ((i : Nat) : Int) < m := by omega
      obtain rfl : i = m := by omega
      have hfin : D.ps.take i = D.ps := by rw [← HM.out]; exact List.take_length
      rw [hfin] at hj
      have HJ0 := hid hj
      clear hj
      gi_wp2_with fail
      go_end0
      exact ⟨⟨_, rfl⟩, .all _ rfl HJ0.out⟩
end Go.Proofs.YtbcileppebpamaaGreatDoor
