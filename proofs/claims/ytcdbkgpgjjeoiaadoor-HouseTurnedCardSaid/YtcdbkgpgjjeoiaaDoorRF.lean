/- A range over an iterator that writes the box that it has captured: the law for the caller, outside a round and within one. -/
import Derived.Test.YtcdbkgpgjjeoiaaDoorQD
import Derived.Test.YtcdbkgpgjjeoiaaDoorW14
import Derived.RangeFuncNested
import Derived.RangeFuncLeaves
import Derived.RangeFuncBound
namespace Go.Proofs.YtcdbkgpgjjeoiaaDoor
open Go Go.RowKit
set_option maxRecDepth 100000

@[go_sem] theorem wideR_fn (l : Nat) (f : FuncId) : (Fence.wide.inRound l).fn f = True := eq_true trivial
@[go_sem] theorem wide_depth : Fence.wide.depth = none := rfl
@[go_sem] theorem wideRR_fn (l l2 : Nat) (f : FuncId) : ((Fence.wide.inRound l).inRound l2).fn f = True := eq_true trivial
/-- Block b, if it holds cells, is as it was. -/
def KeptB (b : Nat) (W W' : World) : Prop := ∀ o, W.heap[b]? = some o → o.isCells = true → W'.heap[b]? = some o
theorem KeptB.refl (b : Nat) (W : World) : KeptB b W W := fun _ h _ => h
theorem KeptB.trans {b : Nat} {A B C : World} (h : KeptB b A B) (k : KeptB b B C) : KeptB b A C := fun o ho hc => k o (h o ho hc) hc
theorem KeptB.below {b B : Nat} {W W' : World} (h : Below B W W') (hb : b < B) : KeptB b W W' := fun _ ho _ => (h.block b hb).trans ho
theorem KeptB.put {b l : Nat} (W : World) (o : Obj) (h : b ≠ l) : KeptB b W (W.putObj l o) := fun _ ho _ => (World.putObj_heap_other h).trans ho
theorem KeptB.set {b c i : Nat} (W : World) (v : Value) (h : b ≠ c) : KeptB b W (W.setCell ⟨c, i, none⟩ v) := fun _ ho _ => (heap_setCell_other W ⟨c, i, none⟩ b v h).trans ho
theorem KeptB.grown {b : Nat} {W W' : World} {row : Option Nat} (h : W.grownBy W' row) (hr : row ≠ some b) : KeptB b W W' := fun _ ho _ => (h.block b (heap_lt ho) fun e => hr e.symm).trans ho

section
variable {F : Fence} {n : Nat} {P : Program}
/-- What is asked of the iterator: each of the places of the list is handed to the body, in order. -/
def SeqB (F : Fence) (n : Nat) (P : Program) (g : Nat) (lb : Array Value) (encs : Nat → Array Value) (b : Nat) (Lst : List Nat) (w : World) : Prop :=
  ∀ (l : Nat) (J : List Nat → World → Prop) (W : World), Below w.heap.size w W → (∀ pre W1 v, J pre W1 → J pre (W1.setCell ⟨b, 0, none⟩ v)) → (∀ pre W1, J pre W1 → LaidB W1) →
    (∀ pre x W1, J pre W1 → (∃ rest, Lst = pre ++ x :: rest) → YieldAt F (n - 1) P l (encs x) W1 fun e W' => e = .returned (.bool true) ∧ J (pre ++ [x]) W' ∧ KeptB b W1 W') →
    J [] W → CallsIn F n P g (#[.func (.yield l) #[] #[]] ++ lb) W fun e W' => (∃ v, e = .returned v) ∧ J Lst W'
theorem SeqB.inRound {P : Program} {g : Nat} {lb : Array Value} {encs : Nat → Array Value} {b : Nat} {Lst : List Nat} {w : World} {n : Nat} (l : Nat) (h : SeqB Fence.wide n P g lb encs b Lst w) : SeqB (Fence.wide.inRound l) n P g lb encs b Lst w := h
/-- How the body of a round is left. -/
def rfPost (B b : Nat) (I : List Nat → World → Prop) (xs : List Nat) (W : World) : Exit → Act → World → Prop
  | .normal, _, W' => KeepsFrom B W W' ∧ KeptB b W W' ∧ I xs W'
  | _, _, _ => False

theorem rf_round {fn : FuncId} (hfn : F.fn fn) {tm : Array Value} {ps : Array Tmp} {assign body : Code} {D l B b : Nat} (hB : B ≤ l) (hb : b < B) {encs : Nat → Array Value} (hps : ∀ x, (encs x).size = ps.size) {Lst : List Nat}
    {I : List Nat → World → Prop} (hI : OwnFrom B I) {Ax : Nat → Act → World → Prop} (hAx : ∀ x a', OwnFrom B (fun (_ : Unit) W => Ax x a' W))
    (hassign : ∀ (l : Nat) (pre : List Nat) (x : Nat) (W : World) (K : Act → World → Prop), I pre W → (∀ a' W', KeepsFrom B W W' → KeptB b W W' → I pre W' → Ax x a' W' → K a' W') →
      assign.wpIn (F.inRound l) n P (Exit.then K (fun _ _ _ => False)) { tmps := (ps.zip (encs x)).foldl (fun t (p, v) => t.setIfInBounds p v) tm, defers := [] } W)
    (hbody : ∀ (l : Nat) (pre : List Nat) (x : Nat) (a' : Act) (W : World), B ≤ l → (∃ r, W.heap[l]? = some (.loop r)) → I pre W → Ax x a' W → (∃ rest, Lst = pre ++ x :: rest) → body.wpIn (F.inRound l) n P (rfPost B b I (pre ++ [x]) W) a' W)
    (pre : List Nat) (x : Nat) (W : World) (hi : I pre W) (hl : W.heap[l]? = some (.loop { state := .ready, pending := none, fn := fn, tmps := tm, params := ps, assign := assign, body := body, defers := D })) (hx : ∃ rest, Lst = pre ++ x :: rest) :
    YieldAt F n P l (encs x) W fun e W' => e = .returned (.bool true) ∧ (I (pre ++ [x]) W' ∧ W'.heap[l]? = some (.loop { state := .ready, pending := none, fn := fn, tmps := tm, params := ps, assign := assign, body := body, defers := D })) ∧ KeptB b W W' ∧
      (∀ k o, B ≤ k → k ≠ l → W.heap[k]? = some o → o.isCells = false → W'.heap[k]? = some o) := by
  obtain ⟨rec, hrec⟩ : ∃ rec : LoopState → Option Code → Loop, rec = fun st pe => { state := st, pending := pe, fn := fn, tmps := tm, params := ps, assign := assign, body := body, defers := D } := ⟨_, rfl⟩
  have hr0 : rec .ready none = { state := .ready, pending := none, fn := fn, tmps := tm, params := ps, assign := assign, body := body, defers := D } := by rw [hrec]
  rw [← hr0] at hl ⊢
  have hy := run_yield (P := P) (args := encs x) hl (by rw [hrec]; exact hps x)
  rw [hrec] at hy
  refine ⟨fn, _, assign, body, hy, roundIn_of_wpIn hfn (hassign _ pre x W _ hi ?_)⟩
  clear hy
  intro a' Wa hkfa hkpa hia hax
  have hla := hkfa.same _ _ hB hl rfl
  have hlt := heap_lt hla
  refine ⟨_, run_beginRound hla (by rw [hrec]), ?_⟩
  have hl2 : (Wa.putObj l (.loop { rec .ready none with state := .busy })).heap[l]? = some (.loop { rec .ready none with state := .busy }) := World.putObj_heap_same hlt
  refine wpIn_mono (hbody _ pre x a' _ hB ⟨_, hl2⟩ (hI.putObj _ hia hB hla rfl) ((hAx x a').putObj (s := ()) _ hax hB hla rfl) hx) ?_
  rintro e a3 W3 hp
  cases e with
  | normal =>
    obtain ⟨hk3, hkp3, hi3⟩ := hp
    have hl3 := hk3.same _ _ hB hl2 rfl
    have hend := run_endRound (P := P) none hl3
    have hbl : b ≠ l := by omega
    refine ⟨_, _, hend, rfl, ⟨?_, ?_⟩, ?_, ?_⟩
    · exact hI.putObj _ hi3 hB hl3 rfl
    · rw [World.putObj_heap_same (heap_lt hl3), hrec]
      rfl
    · exact hkpa.trans ((KeptB.put _ _ hbl).trans (hkp3.trans (KeptB.put _ _ hbl)))
    · intro k o hk hne ho hc
      have h1 := hkfa.same k o hk ho hc
      have h2 := hk3.same k o hk ((World.putObj_heap_other hne).trans h1) hc
      exact (World.putObj_heap_other hne).trans h2
  | ret => exact hp.elim
  | exit id => exact hp.elim
  | goto t => exact hp.elim
  | panic ch => exact hp.elim
  | outgrown => exact hp.elim

/-- The law outside a round. -/
theorem rf_out {g : Operand} {ps : Array Tmp} {assign body : Code} {Q : Exit → Act → World → Prop} {a : Act} {w : World}
    (hro : F.round = none) (h1 : 1 ≤ n) {gf : Nat} {lb : Array Value} (hg : a.eval g = .func (.func gf) #[] lb) (hFg : F.fn gf) (eg : ∀ args w, (callFunc gf args).run P w = .ok (.enter gf args) w)
    {encs : Nat → Array Value} {b : Nat} {Lst : List Nat} (hseq : SeqB F (n - 1) P gf lb encs b Lst w) (hb : b < w.heap.size) (hps : ∀ x, (encs x).size = ps.size)
    (I : List Nat → World → Prop) (hI : OwnFrom w.heap.size I) (hIb : ∀ pre W v, I pre W → I pre (W.setCell ⟨b, 0, none⟩ v)) (hIL : ∀ pre W, I pre W → LaidB W) (h0 : I [] w) (Ax : Nat → Act → World → Prop) (hAx : ∀ x a', OwnFrom w.heap.size (fun (_ : Unit) W => Ax x a' W))
    (hassign : ∀ (l : Nat) (pre : List Nat) (x : Nat) (W : World) (K : Act → World → Prop), I pre W → (∀ a' W', KeepsFrom w.heap.size W W' → KeptB b W W' → I pre W' → Ax x a' W' → K a' W') →
      assign.wpIn (F.inRound l) (n - 1 - 1) P (Exit.then K (fun _ _ _ => False)) { tmps := (ps.zip (encs x)).foldl (fun t (p, v) => t.setIfInBounds p v) a.tmps, defers := [] } W)
    (hbody : ∀ (l : Nat) (pre : List Nat) (x : Nat) (a' : Act) (W : World), w.heap.size ≤ l → (∃ r, W.heap[l]? = some (.loop r)) → I pre W → Ax x a' W → (∃ rest, Lst = pre ++ x :: rest) → body.wpIn (F.inRound l) (n - 1 - 1) P (rfPost w.heap.size b I (pre ++ [x]) W) a' W)
    (hdone : ∀ (D : Nat) (W : World), w.heap.size ≤ D → I Lst W → W.heap[D]? = some (.deferred (some [])) → Q .normal { a with defers := { target := .collected D, args := #[] } :: a.defers } W) :
    (Code.rangeFunc g ps assign body).wpIn F n P Q a w := by
  refine wpIn_rangeFunc ?_
  intro fn hfn
  rw [hro]
  obtain ⟨W1, hW1⟩ : ∃ W1, (w.alloc (.deferred (some []))).alloc (.loop { state := .ready, pending := none, fn := fn, tmps := a.tmps, params := ps, assign := assign, body := body, defers := w.heap.size }) = W1 := ⟨_, rfl⟩
  have hL1 : W1.heap[w.heap.size + 1]? = some (.loop { state := .ready, pending := none, fn := fn, tmps := a.tmps, params := ps, assign := assign, body := body, defers := w.heap.size }) := by
    rw [← hW1]; have := World.alloc_heap_new (w.alloc (.deferred (some []))) (.loop { state := .ready, pending := none, fn := fn, tmps := a.tmps, params := ps, assign := assign, body := body, defers := w.heap.size }); rwa [World.size_alloc] at this
  have hK1 : W1.heap[w.heap.size]? = some (.deferred (some [])) := by
    rw [← hW1]; exact (Below.heap_alloc _ _ _ (by simp)).trans (World.alloc_heap_new w _)
  have hI1 : I [] W1 := by rw [← hW1]; exact hI.alloc _ (hI.alloc _ h0)
  have hb1 : Below w.heap.size w W1 := by
    rw [← hW1]; exact ((Below.refl _ w).alloc (Nat.le_refl _) _).alloc (by simp) _
  refine ⟨w.heap.size + 1, [{ target := .collected w.heap.size, args := #[] }], W1, { target := .fn (.func gf) lb, args := #[.func (.yield (w.heap.size + 1)) #[] #[]] }, W1, gf,
    #[.func (.yield (w.heap.size + 1)) #[] #[]] ++ lb, W1, ?_, ?_, ?_, ?_, fun _ => h1, ?_⟩
  · rw [← hW1]; exact run_enterLoop_outer _ _ _ _ _
  · simp only [resolve, hg]
    simp [go_sem]
  · intro f' hf'; simp [Target.leads] at hf'; subst hf'; exact hFg
  · simp [invoke, go_sem, eg]
  · refine (hseq (w.heap.size + 1)
      (fun pre W => (I pre W ∧ W.heap[w.heap.size + 1]? = some (.loop { state := .ready, pending := none, fn := fn, tmps := a.tmps, params := ps, assign := assign, body := body, defers := w.heap.size })) ∧ W.heap[w.heap.size]? = some (.deferred (some [])))
      W1 hb1 ?_ (fun pre W1 h => hIL pre W1 h.1.1) ?_ ⟨⟨hI1, hL1⟩, hK1⟩).mono ?_
    · rintro pre W v ⟨⟨h1, h2⟩, h3⟩
      refine ⟨⟨hIb pre W v h1, ?_⟩, ?_⟩
      · exact (heap_setCell_other W ⟨b, 0, none⟩ _ v (show w.heap.size + 1 ≠ b by omega)).trans h2
      · exact (heap_setCell_other W ⟨b, 0, none⟩ _ v (show w.heap.size ≠ b by omega)).trans h3
    · rintro pre x W ⟨⟨hi, hl⟩, hk⟩ hx
      have hr := rf_round (n := n - 1 - 1) (P := P) hfn (Nat.le_succ _) hb hps hI hAx hassign hbody pre x W hi hl hx
      refine YieldAt.mono hr ?_
      rintro e W' ⟨he, h2, h3, h4⟩
      exact ⟨he, ⟨h2, h4 _ _ (Nat.le_refl _) (by omega) hk rfl⟩, h3⟩
    · rintro e W2 ⟨⟨v, rfl⟩, ⟨hi, hl⟩, hk⟩
      have hend := run_endLoop (P := P) hl (by simp)
      exact ⟨none, _, hend, hdone _ _ (Nat.le_refl _) (hI.putObj _ hi (by omega) hl rfl) ((World.putObj_heap_other (by omega)).trans hk)⟩

/-- The law within a round of loop l₀. -/
theorem rf_in {g : Operand} {ps : Array Tmp} {assign body : Code} {Q : Exit → Act → World → Prop} {a : Act} {w : World}
    {l₀ : Nat} {r₀ : Loop} (hro : F.round = some l₀) (hl₀ : w.heap[l₀]? = some (.loop r₀)) (h1 : 1 ≤ n) {gf : Nat} {lb : Array Value} (hg : a.eval g = .func (.func gf) #[] lb) (hFg : F.fn gf) (eg : ∀ args w, (callFunc gf args).run P w = .ok (.enter gf args) w)
    {encs : Nat → Array Value} {b : Nat} {Lst : List Nat} (hseq : SeqB F (n - 1) P gf lb encs b Lst w) (hb : b < w.heap.size) (hps : ∀ x, (encs x).size = ps.size)
    (I : List Nat → World → Prop) (hI : OwnFrom w.heap.size I) (hIb : ∀ pre W v, I pre W → I pre (W.setCell ⟨b, 0, none⟩ v)) (hIL : ∀ pre W, I pre W → LaidB W) (h0 : I [] w) (Ax : Nat → Act → World → Prop) (hAx : ∀ x a', OwnFrom w.heap.size (fun (_ : Unit) W => Ax x a' W))
    (hassign : ∀ (l : Nat) (pre : List Nat) (x : Nat) (W : World) (K : Act → World → Prop), I pre W → (∀ a' W', KeepsFrom w.heap.size W W' → KeptB b W W' → I pre W' → Ax x a' W' → K a' W') →
      assign.wpIn (F.inRound l) (n - 1 - 1) P (Exit.then K (fun _ _ _ => False)) { tmps := (ps.zip (encs x)).foldl (fun t (p, v) => t.setIfInBounds p v) a.tmps, defers := [] } W)
    (hbody : ∀ (l : Nat) (pre : List Nat) (x : Nat) (a' : Act) (W : World), w.heap.size ≤ l → (∃ r, W.heap[l]? = some (.loop r)) → I pre W → Ax x a' W → (∃ rest, Lst = pre ++ x :: rest) → body.wpIn (F.inRound l) (n - 1 - 1) P (rfPost w.heap.size b I (pre ++ [x]) W) a' W)
    (hdone : ∀ (W : World), I Lst W → Q .normal a W) :
    (Code.rangeFunc g ps assign body).wpIn F n P Q a w := by
  refine wpIn_rangeFunc ?_
  intro fn hfn
  rw [hro]
  obtain ⟨W1, hW1⟩ : ∃ W1, w.alloc (.loop { state := .ready, pending := none, fn := fn, tmps := a.tmps, params := ps, assign := assign, body := body, defers := r₀.defers }) = W1 := ⟨_, rfl⟩
  have hL1 : W1.heap[w.heap.size]? = some (.loop { state := .ready, pending := none, fn := fn, tmps := a.tmps, params := ps, assign := assign, body := body, defers := r₀.defers }) := by rw [← hW1]; exact World.alloc_heap_new w _
  have hI1 : I [] W1 := by rw [← hW1]; exact hI.alloc _ h0
  have hb1 : Below w.heap.size w W1 := by rw [← hW1]; exact (Below.refl _ w).alloc (Nat.le_refl _) _
  refine ⟨w.heap.size, [], W1, { target := .fn (.func gf) lb, args := #[.func (.yield w.heap.size) #[] #[]] }, W1, gf,
    #[.func (.yield w.heap.size) #[] #[]] ++ lb, W1, ?_, ?_, ?_, ?_, fun _ => h1, ?_⟩
  · rw [← hW1]; exact run_enterLoop_inner hl₀ _ _ _ _ _
  · simp only [resolve, hg]
    simp [go_sem]
  · intro f' hf'; simp [Target.leads] at hf'; subst hf'; exact hFg
  · simp [invoke, go_sem, eg]
  · refine (hseq w.heap.size
      (fun pre W => I pre W ∧ W.heap[w.heap.size]? = some (.loop { state := .ready, pending := none, fn := fn, tmps := a.tmps, params := ps, assign := assign, body := body, defers := r₀.defers }))
      W1 hb1 ?_ (fun pre W1 h => hIL pre W1 h.1) ?_ ⟨hI1, hL1⟩).mono ?_
    · rintro pre W v ⟨h1, h2⟩
      exact ⟨hIb pre W v h1, (heap_setCell_other W ⟨b, 0, none⟩ _ v (show w.heap.size ≠ b by omega)).trans h2⟩
    · rintro pre x W ⟨hi, hl⟩ hx
      have hr := rf_round (n := n - 1 - 1) (P := P) hfn (Nat.le_refl _) hb hps hI hAx hassign hbody pre x W hi hl hx
      refine YieldAt.mono hr ?_
      rintro e W' ⟨he, h2, h3, h4⟩
      exact ⟨he, h2, h3⟩
    · rintro e W2 ⟨⟨v, rfl⟩, hi, hl⟩
      have hend := run_endLoop (P := P) hl (by simp)
      exact ⟨none, _, hend, hdone _ (hI.putObj _ hi (Nat.le_refl _) hl rfl)⟩
/-- The laws where the frame in a round is a function of the place (and, where the loop's variable is boxed, of its box). -/
theorem rf_outA {g : Operand} {ps : Array Tmp} {assign body : Code} {Q : Exit → Act → World → Prop} {a : Act} {w : World}
    (hro : F.round = none) (h1 : 1 ≤ n) {gf : Nat} {lb : Array Value} (hg : a.eval g = .func (.func gf) #[] lb) (hFg : F.fn gf) (eg : ∀ args w, (callFunc gf args).run P w = .ok (.enter gf args) w)
    {encs : Nat → Array Value} {b : Nat} {Lst : List Nat} (hseq : SeqB F (n - 1) P gf lb encs b Lst w) (hb : b < w.heap.size) (hps : ∀ x, (encs x).size = ps.size)
    (I : List Nat → World → Prop) (hI : OwnFrom w.heap.size I) (hIb : ∀ pre W v, I pre W → I pre (W.setCell ⟨b, 0, none⟩ v)) (hIL : ∀ pre W, I pre W → LaidB W) (h0 : I [] w) {A : Nat → Act}
    (hassign : ∀ (l : Nat) (pre : List Nat) (x : Nat) (W : World) (K : Act → World → Prop), I pre W → (∀ a', a' = A x → K a' W) →
      assign.wpIn (F.inRound l) (n - 1 - 1) P (Exit.then K (fun _ _ _ => False)) { tmps := (ps.zip (encs x)).foldl (fun t (p, v) => t.setIfInBounds p v) a.tmps, defers := [] } W)
    (hbody : ∀ (l : Nat) (pre : List Nat) (x : Nat) (W : World), w.heap.size ≤ l → (∃ r, W.heap[l]? = some (.loop r)) → I pre W → (∃ rest, Lst = pre ++ x :: rest) → body.wpIn (F.inRound l) (n - 1 - 1) P (rfPost w.heap.size b I (pre ++ [x]) W) (A x) W)
    (hdone : ∀ (D : Nat) (W : World), w.heap.size ≤ D → I Lst W → W.heap[D]? = some (.deferred (some [])) → Q .normal { a with defers := { target := .collected D, args := #[] } :: a.defers } W) :
    (Code.rangeFunc g ps assign body).wpIn F n P Q a w :=
  rf_out hro h1 hg hFg eg hseq hb hps I hI hIb hIL h0 (fun x a' _ => a' = A x) (fun _ _ _ _ _ _ hs _ _ => hs)
    (fun l pre x W K hi hK => hassign l pre x W K hi fun a' ha => hK a' W (KeepsFrom.refl _ _) (KeptB.refl _ _) hi ha)
    (fun l pre x a' W hl hr hi ha hx => by subst ha; exact hbody l pre x W hl hr hi hx) hdone
theorem rf_inA {g : Operand} {ps : Array Tmp} {assign body : Code} {Q : Exit → Act → World → Prop} {a : Act} {w : World}
    {l₀ : Nat} {r₀ : Loop} (hro : F.round = some l₀) (hl₀ : w.heap[l₀]? = some (.loop r₀)) (h1 : 1 ≤ n) {gf : Nat} {lb : Array Value} (hg : a.eval g = .func (.func gf) #[] lb) (hFg : F.fn gf) (eg : ∀ args w, (callFunc gf args).run P w = .ok (.enter gf args) w)
    {encs : Nat → Array Value} {b : Nat} {Lst : List Nat} (hseq : SeqB F (n - 1) P gf lb encs b Lst w) (hb : b < w.heap.size) (hps : ∀ x, (encs x).size = ps.size)
    (I : List Nat → World → Prop) (hI : OwnFrom w.heap.size I) (hIb : ∀ pre W v, I pre W → I pre (W.setCell ⟨b, 0, none⟩ v)) (hIL : ∀ pre W, I pre W → LaidB W) (h0 : I [] w) {A : Nat → Act}
    (hassign : ∀ (l : Nat) (pre : List Nat) (x : Nat) (W : World) (K : Act → World → Prop), I pre W → (∀ a', a' = A x → K a' W) →
      assign.wpIn (F.inRound l) (n - 1 - 1) P (Exit.then K (fun _ _ _ => False)) { tmps := (ps.zip (encs x)).foldl (fun t (p, v) => t.setIfInBounds p v) a.tmps, defers := [] } W)
    (hbody : ∀ (l : Nat) (pre : List Nat) (x : Nat) (W : World), w.heap.size ≤ l → (∃ r, W.heap[l]? = some (.loop r)) → I pre W → (∃ rest, Lst = pre ++ x :: rest) → body.wpIn (F.inRound l) (n - 1 - 1) P (rfPost w.heap.size b I (pre ++ [x]) W) (A x) W)
    (hdone : ∀ (W : World), I Lst W → Q .normal a W) :
    (Code.rangeFunc g ps assign body).wpIn F n P Q a w :=
  rf_in hro hl₀ h1 hg hFg eg hseq hb hps I hI hIb hIL h0 (fun x a' _ => a' = A x) (fun _ _ _ _ _ _ hs _ _ => hs)
    (fun l pre x W K hi hK => hassign l pre x W K hi fun a' ha => hK a' W (KeepsFrom.refl _ _) (KeptB.refl _ _) hi ha)
    (fun l pre x a' W hl hr hi ha hx => by subst ha; exact hbody l pre x W hl hr hi hx) hdone
/-- .. the variable is boxed. -/
theorem rf_outX {g : Operand} {ps : Array Tmp} {assign body : Code} {Q : Exit → Act → World → Prop} {a : Act} {w : World}
    (hro : F.round = none) (h1 : 1 ≤ n) {gf : Nat} {lb : Array Value} (hg : a.eval g = .func (.func gf) #[] lb) (hFg : F.fn gf) (eg : ∀ args w, (callFunc gf args).run P w = .ok (.enter gf args) w)
    {encs : Nat → Array Value} {b : Nat} {Lst : List Nat} (hseq : SeqB F (n - 1) P gf lb encs b Lst w) (hb : b < w.heap.size) (hps : ∀ x, (encs x).size = ps.size) (T : TypeId)
    (I : List Nat → World → Prop) (hI : OwnFrom w.heap.size I) (hIa : ∀ pre W o, I pre W → I pre (W.alloc o)) (hIs : ∀ pre W, I pre W → w.heap.size ≤ W.heap.size) (hIb : ∀ pre W v, I pre W → I pre (W.setCell ⟨b, 0, none⟩ v)) (hIL : ∀ pre W, I pre W → LaidB W) (h0 : I [] w) {A : Nat → Nat → Act}
    (hassign : ∀ (l : Nat) (pre : List Nat) (x B : Nat) (W : World) (K : Act → World → Prop), W.heap.size = B → I pre W → (∀ a', a' = A x B → K a' (W.alloc (.cells #[.int .i64 ((x : Nat) : Int)] T))) →
      assign.wpIn (F.inRound l) (n - 1 - 1) P (Exit.then K (fun _ _ _ => False)) { tmps := (ps.zip (encs x)).foldl (fun t (p, v) => t.setIfInBounds p v) a.tmps, defers := [] } W)
    (hbody : ∀ (l : Nat) (pre : List Nat) (x B : Nat) (W : World), w.heap.size ≤ l → (∃ r, W.heap[l]? = some (.loop r)) → I pre W → w.heap.size ≤ B → Boxed W B T (.int .i64 ((x : Nat) : Int)) → (∃ rest, Lst = pre ++ x :: rest) → body.wpIn (F.inRound l) (n - 1 - 1) P (rfPost w.heap.size b I (pre ++ [x]) W) (A x B) W)
    (hdone : ∀ (D : Nat) (W : World), w.heap.size ≤ D → I Lst W → W.heap[D]? = some (.deferred (some [])) → Q .normal { a with defers := { target := .collected D, args := #[] } :: a.defers } W) :
    (Code.rangeFunc g ps assign body).wpIn F n P Q a w :=
  rf_out hro h1 hg hFg eg hseq hb hps I hI hIb hIL h0 (fun x a' W => ∃ B, w.heap.size ≤ B ∧ Boxed W B T (.int .i64 ((x : Nat) : Int)) ∧ a' = A x B)
    (fun x a' _ X Y row hs hg' hr => by
      obtain ⟨B, h1, h2, h3⟩ := hs
      refine ⟨B, h1, h2.kept hg' (fun e => ?_), h3⟩
      obtain ⟨_, o, ho, hc⟩ := hr B e.symm
      rw [show X.heap[B]? = _ from h2] at ho
      cases ho
      cases hc)
    (fun l pre x W K hi hK => hassign l pre x W.heap.size W K rfl hi fun a' ha => hK a' _ ((KeepsOthers.alloc _ _).from _) (fun o ho _ => (Below.heap_alloc W _ b (heap_lt ho)).trans ho) (hIa _ _ _ hi) ⟨W.heap.size, hIs _ _ hi, Boxed.new W T _, ha⟩)
    (fun l pre x a' W hl hr hi ha hx => by
      obtain ⟨B, h1, h2, h3⟩ := ha
      subst h3
      exact hbody l pre x B W hl hr hi h1 h2 hx) hdone
end
end Go.Proofs.YtcdbkgpgjjeoiaaDoor
