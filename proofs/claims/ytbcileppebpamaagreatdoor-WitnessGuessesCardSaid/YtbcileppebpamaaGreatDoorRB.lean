/- A range over an iterator that is a method's value: XRG's law outside a round, the bound arguments ahead. -/
import Derived.Test.YtbcileppebpamaaGreatDoorRG
set_option linter.unusedSimpArgs false
set_option linter.unusedVariables false
namespace Go.Proofs.YtbcileppebpamaaGreatDoor
open Go Go.RowKit
set_option maxRecDepth 100000

section
variable {F : Fence} {n : Nat} {P : Program} {α : Type}
/-- What is asked of the iterator: what it hands to the body; S x: the blocks that it reads again behind that round. -/
def SeqB (F : Fence) (n : Nat) (P : Program) (g : Nat) (pb lb : Array Value) (encs : α → Array Value) (S : α → Nat → Prop) (Ok : List α → α → World → Prop) (End : List α → Prop) (w : World) : Prop :=
  ∀ (l : Nat) (J Jx : List α → World → Prop) (W : World), Below w.heap.size w W → (∀ pre W1 W2, J pre W1 → Below W1.heap.size W1 W2 → J pre W2) → (∀ pre, Abd W.heap.size (J pre) ∧ Abd W.heap.size (Jx pre)) →
    (∀ pre x W1, J pre W1 → Ok pre x W1 → YieldAt F (n - 1) P l (encs x) W1 fun e W' => (e = .returned (.bool true) ∧ J (pre ++ [x]) W' ∧ KeptS (S x) W1 W' ∧ KeepsL W1 W') ∨ (e = .returned (.bool false) ∧ Jx (pre ++ [x]) W' ∧ KeptS (fun _ => False) W1 W' ∧ ∀ k r, W.heap.size ≤ k → W1.heap[k]? = some (.loop r) → W'.heap[k]? = some (.loop r))) →
    J [] W → CallsIn F n P g (pb ++ #[.func (.yield l) #[] #[]] ++ lb) W fun e W' => (∃ v, e = .returned v) ∧ SeqEnd End J Jx W'
/-- The law outside a round. -/
theorem rb_out {g : Operand} {ps : Array Tmp} {assign body : Code} {Q : Exit → Act → World → Prop} {a : Act} {w : World}
    (hro : F.round = none) (h1 : 1 ≤ n) {gf : Nat} {pb lb : Array Value} (hg : a.eval g = .func (.func gf) pb lb) (hFg : F.fn gf) (eg : ∀ args w, (callFunc gf args).run P w = .ok (.enter gf args) w)
    {encs : α → Array Value} {S : α → Nat → Prop} {Ok : List α → α → World → Prop} {End : List α → Prop} (hseq : SeqB F (n - 1) P gf pb lb encs S Ok End w) (hps : ∀ x, (encs x).size = ps.size)
    (I : List α → World → Prop) (Ix : Code → List α → World → Prop) (hI : ∀ pre, Abd w.heap.size (I pre)) (hIx : ∀ c pre, Abd w.heap.size (Ix c pre)) (hOk : ∀ pre x, Abd w.heap.size (Ok pre x)) (h0 : I [] w) (Ax : α → Act → World → Prop) (hAx : ∀ x a', Abd w.heap.size (Ax x a'))
    (hassign : ∀ (l : Nat) (pre : List α) (x : α) (W : World) (K : Act → World → Prop), I pre W → Ok pre x W → (∀ a' W', Below W.heap.size W W' → Ax x a' W' → K a' W') →
      assign.wpIn (F.inRound l) (n - 1 - 1) P (Exit.then K (fun _ _ _ => False)) { tmps := (ps.zip (encs x)).foldl (fun t (p, v) => t.setIfInBounds p v) a.tmps, defers := [] } W)
    (hbody : ∀ (l : Nat) (pre : List α) (x : α) (a' : Act) (W : World), w.heap.size ≤ l → (∃ r, W.heap[l]? = some (.loop r)) → I pre W → Ok pre x W → Ax x a' W → body.wpIn (F.inRound l) (n - 1 - 1) P (rgPost l (S x) I Ix (pre ++ [x]) W) a' W)
    (hdone : ∀ (D : Nat) (xs : List α) (W : World), w.heap.size ≤ D → End xs → I xs W → W.heap[D]? = some (.deferred (some [])) → Q .normal { a with defers := { target := .collected D, args := #[] } :: a.defers } W)
    (hstop : ∀ (D : Nat) (c : Code) (pre : List α) (W : World), w.heap.size ≤ D → Ix c pre W → W.heap[D]? = some (.deferred (some [])) → c.wpIn F n P Q { a with defers := { target := .collected D, args := #[] } :: a.defers } W) :
    (Code.rangeFunc g ps assign body).wpIn F n P Q a w := by
  refine wpIn_rangeFunc ?_
  intro fn hfn
  rw [hro]
  obtain ⟨rec, hrec⟩ : ∃ rec : LoopState → Option Code → Loop, rec = fun st pe => { state := st, pending := pe, fn := fn, tmps := a.tmps, params := ps, assign := assign, body := body, defers := w.heap.size } := ⟨_, rfl⟩
  obtain ⟨W1, hW1⟩ : ∃ W1, (w.alloc (.deferred (some []))).alloc (.loop (rec .ready none)) = W1 := ⟨_, rfl⟩
  have hL1 : W1.heap[w.heap.size + 1]? = some (.loop (rec .ready none)) := by
    rw [← hW1]; have := World.alloc_heap_new (w.alloc (.deferred (some []))) (.loop (rec .ready none)); rwa [World.size_alloc] at this
  have hK1 : W1.heap[w.heap.size]? = some (.deferred (some [])) := by
    rw [← hW1]; exact (Below.heap_alloc _ _ _ (by simp)).trans (World.alloc_heap_new w _)
  have hb1 : Below w.heap.size w W1 := by
    rw [← hW1]; exact ((Below.refl _ w).alloc (Nat.le_refl _) _).alloc (by simp) _
  have hI1 : I [] W1 := (hI []).below _ _ h0 hb1
  refine ⟨w.heap.size + 1, [{ target := .collected w.heap.size, args := #[] }], W1, { target := .fn (.func gf) lb, args := pb ++ #[.func (.yield (w.heap.size + 1)) #[] #[]] }, W1, gf,
    pb ++ #[.func (.yield (w.heap.size + 1)) #[] #[]] ++ lb, W1, ?_, ?_, ?_, ?_, fun _ => h1, ?_⟩
  · rw [← hW1, hrec]; exact run_enterLoop_outer _ _ _ _ _
  · simp only [resolve, hg]
    simp [go_sem]
  · intro f' hf'; simp [Target.leads] at hf'; subst hf'; exact hFg
  · simp [invoke, go_sem, eg]
  · have keep : ∀ (W W' : World) (k : Nat) (o : Obj), W.heap[k]? = some o → Below W.heap.size W W' → W'.heap[k]? = some o := fun W W' k o h hb => (hb.block k (Array.getElem?_eq_some_iff.1 h).1).trans h
    refine (hseq (w.heap.size + 1)
      (fun pre W => I pre W ∧ W.heap[w.heap.size + 1]? = some (.loop (rec .ready none)) ∧ W.heap[w.heap.size]? = some (.deferred (some [])))
      (fun pre W => ∃ c, Ix c pre W ∧ W.heap[w.heap.size + 1]? = some (.loop (rec .done (some c))) ∧ W.heap[w.heap.size]? = some (.deferred (some [])))
      W1 hb1 (fun pre A C hs hb => ⟨(hI pre).below _ _ hs.1 hb, keep _ _ _ _ hs.2.1 hb, keep _ _ _ _ hs.2.2 hb⟩)
      (fun pre => ⟨((hI pre).mono hb1.size).and ((Abd.loopAt _ _ (Array.getElem?_eq_some_iff.1 hL1).1 _).and (Abd.dfr _ _ (Array.getElem?_eq_some_iff.1 hK1).1 _)),
        Abd.ex fun c => ((hIx c pre).mono hb1.size).and ((Abd.loopAt _ _ (Array.getElem?_eq_some_iff.1 hL1).1 _).and (Abd.dfr _ _ (Array.getElem?_eq_some_iff.1 hK1).1 _))⟩) ?_ ⟨hI1, hL1, hK1⟩).mono ?_
    · rintro pre x W ⟨hi, hl, hk⟩ hok
      refine YieldAt.mono (rg_round (n := n - 1 - 1) (P := P) (S := S) hfn (Nat.le_succ _) hps hI hIx hOk hAx hassign (fun l pre x a' W hl => hbody l pre x a' W (by omega)) pre x W hi hok hrec hl) ?_
      rintro e W' (⟨he, ⟨h2, h3, h4⟩, h5⟩ | ⟨he, ⟨c, h2, h3⟩, h5, h6⟩)
      · exact .inl ⟨he, ⟨h2, h3, h4 _ _ (by omega) hk rfl⟩, h5, ⟨h5.size, fun k o ho hb => (Classical.em (k = w.heap.size + 1)).elim (fun e => by subst e; rw [hl] at ho; cases ho; exact h3) fun hne => h4 k o hne ho hb⟩⟩
      · exact .inr ⟨he, ⟨c, h2, h3, h5.dfr _ _ hk⟩, h5, fun k r hk' ho => h6 k r (by have := (Array.getElem?_eq_some_iff.1 hL1).1; omega) ho⟩
    · rintro e W2 ⟨⟨v, rfl⟩, (⟨xs, hS, hi, hl, hk⟩ | ⟨pre, c, hi, hl, hk⟩)⟩
      · exact ⟨none, _, by have := run_endLoop (P := P) hl (by rw [hrec]; simp); rw [hrec] at this; exact this, hdone _ xs _ (Nat.le_refl _) hS ((hI xs).turn _ _ _ _ (by omega) hi hl) ((World.putObj_heap_other (by omega)).trans hk)⟩
      · exact ⟨some c, _, by have := run_endLoop (P := P) hl (by rw [hrec]; simp); rw [hrec] at this; exact this, hstop _ c pre _ (Nat.le_refl _) ((hIx c pre).turn _ _ _ _ (by omega) hi hl) ((World.putObj_heap_other (by omega)).trans hk)⟩
/-- The frame in a round is a function of what was handed out. -/
theorem rb_outA {g : Operand} {ps : Array Tmp} {assign body : Code} {Q : Exit → Act → World → Prop} {a : Act} {w : World}
    (hro : F.round = none) (h1 : 1 ≤ n) {gf : Nat} {pb lb : Array Value} (hg : a.eval g = .func (.func gf) pb lb) (hFg : F.fn gf) (eg : ∀ args w, (callFunc gf args).run P w = .ok (.enter gf args) w)
    {encs : α → Array Value} {S : α → Nat → Prop} {Ok : List α → α → World → Prop} {End : List α → Prop} (hseq : SeqB F (n - 1) P gf pb lb encs S Ok End w) (hps : ∀ x, (encs x).size = ps.size)
    (I : List α → World → Prop) (Ix : Code → List α → World → Prop) (hI : ∀ pre, Abd w.heap.size (I pre)) (hIx : ∀ c pre, Abd w.heap.size (Ix c pre)) (hOk : ∀ pre x, Abd w.heap.size (Ok pre x)) (h0 : I [] w) {A : α → Act}
    (hassign : ∀ (l : Nat) (pre : List α) (x : α) (W : World) (K : Act → World → Prop), I pre W → Ok pre x W → (∀ a', a' = A x → K a' W) →
      assign.wpIn (F.inRound l) (n - 1 - 1) P (Exit.then K (fun _ _ _ => False)) { tmps := (ps.zip (encs x)).foldl (fun t (p, v) => t.setIfInBounds p v) a.tmps, defers := [] } W)
    (hbody : ∀ (l : Nat) (pre : List α) (x : α) (W : World), w.heap.size ≤ l → (∃ r, W.heap[l]? = some (.loop r)) → I pre W → Ok pre x W → body.wpIn (F.inRound l) (n - 1 - 1) P (rgPost l (S x) I Ix (pre ++ [x]) W) (A x) W)
    (hdone : ∀ (D : Nat) (xs : List α) (W : World), w.heap.size ≤ D → End xs → I xs W → W.heap[D]? = some (.deferred (some [])) → Q .normal { a with defers := { target := .collected D, args := #[] } :: a.defers } W)
    (hstop : ∀ (D : Nat) (c : Code) (pre : List α) (W : World), w.heap.size ≤ D → Ix c pre W → W.heap[D]? = some (.deferred (some [])) → c.wpIn F n P Q { a with defers := { target := .collected D, args := #[] } :: a.defers } W) :
    (Code.rangeFunc g ps assign body).wpIn F n P Q a w :=
  rb_out hro h1 hg hFg eg hseq hps I Ix hI hIx hOk h0 (fun x a' _ => a' = A x) (fun _ _ => Abd.pure _ _)
    (fun l pre x W K hi ho hK => hassign l pre x W K hi ho fun a' ha => hK a' W (Below.refl _ _) ha)
    (fun l pre x a' W hl hr hi ho ha => by subst ha; exact hbody l pre x W hl hr hi ho) hdone hstop
end
end Go.Proofs.YtbcileppebpamaaGreatDoor
