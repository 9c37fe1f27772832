/- A range over an iterator whose body leaves in its first round: the iterator may change whatever it has laid itself. -/
import Derived.Test.YtmjnelkeiogdcaaRG
namespace Go.Proofs.Ytmjnelkeiogdcaa
open Go Go.RowKit
set_option maxRecDepth 100000

section
variable {F : Fence} {n : Nat} {P : Program} {α : Type}
/-- What is asked of the iterator. -/
def SeqOne (F : Fence) (n : Nat) (P : Program) (g : Nat) (lb : Array Value) (encs : α → Array Value) (Ok : α → World → Prop) (End : Prop) (w : World) : Prop :=
  ∀ (l : Nat) (Jx : α → World → Prop) (W : World), Below w.heap.size w W → (∀ x, Abd W.heap.size (Jx x)) →
    (∀ x V, Below W.heap.size W V → Ok x V → YieldAt F (n - 1) P l (encs x) V fun e W' => e = .returned (.bool false) ∧ Jx x W' ∧ KeptS (fun _ => False) V W' ∧ ∀ k r, W.heap.size ≤ k → V.heap[k]? = some (.loop r) → W'.heap[k]? = some (.loop r)) →
    CallsIn F n P g (#[.func (.yield l) #[] #[]] ++ lb) W fun e W' => (∃ v, e = .returned v) ∧ ((End ∧ Below W.heap.size W W') ∨ ∃ x, Jx x W')
/-- The law outside a round. -/
theorem rg_first {g : Operand} {ps : Array Tmp} {assign body : Code} {Q : Exit → Act → World → Prop} {a : Act} {w : World}
    (hro : F.round = none) (h1 : 1 ≤ n) {gf : Nat} {lb : Array Value} (hg : a.eval g = .func (.func gf) #[] lb) (hFg : F.fn gf) (eg : ∀ args w, (callFunc gf args).run P w = .ok (.enter gf args) w)
    {encs : α → Array Value} {Ok : α → World → Prop} {End : Prop} (hseq : SeqOne F (n - 1) P gf lb encs Ok End w) (hps : ∀ x, (encs x).size = ps.size)
    (Ix : Code → α → World → Prop) (hIx : ∀ c x, Abd w.heap.size (Ix c x)) (hOk : ∀ x, Abd w.heap.size (Ok x)) {A : α → Act}
    (hassign : ∀ (l : Nat) (x : α) (W : World) (K : Act → World → Prop), Below w.heap.size w W → Ok x W → (∀ a', a' = A x → K a' W) →
      assign.wpIn (F.inRound l) (n - 1 - 1) P (Exit.then K (fun _ _ _ => False)) { tmps := (ps.zip (encs x)).foldl (fun t (p, v) => t.setIfInBounds p v) a.tmps, defers := [] } W)
    (hbody : ∀ (l : Nat) (x : α) (W : World), w.heap.size ≤ l → (∃ r, W.heap[l]? = some (.loop r)) → Below w.heap.size w W → Ok x W → body.wpIn (F.inRound l) (n - 1 - 1) P (rgPost l (fun _ => False) (fun (_ : List α) _ => False) (fun c xs W' => ∃ x, xs = [x] ∧ Ix c x W') [x] W) (A x) W)
    (hdone : ∀ (D : Nat) (W : World), w.heap.size ≤ D → End → Below w.heap.size w W → W.heap[D]? = some (.deferred (some [])) → Q .normal { a with defers := { target := .collected D, args := #[] } :: a.defers } W)
    (hstop : ∀ (D : Nat) (c : Code) (x : α) (W : World), w.heap.size ≤ D → Ix c x W → W.heap[D]? = some (.deferred (some [])) → c.wpIn F n P Q { a with defers := { target := .collected D, args := #[] } :: a.defers } W) :
    (Code.rangeFunc g ps assign body).wpIn F n P Q a w := by
  refine wpIn_rangeFunc ?_
  intro fn hfn
  rw [hro]
  obtain ⟨rec, hrec⟩ : ∃ rec : LoopState → Option Code → Loop, rec = fun st pe => { state := st, pending := pe, fn := fn, tmps := a.tmps, params := ps, assign := assign, body := body, defers := w.heap.size } := ⟨_, rfl⟩
  obtain ⟨W1, hW1⟩ : ∃ W1, (w.alloc (.deferred (some []))).alloc (.loop (rec .ready none)) = W1 := ⟨_, rfl⟩
  have hL1 : W1.heap[w.heap.size + 1]? = some (.loop (rec .ready none)) := by
    rw [← hW1]; have := World.alloc_heap_new (w.alloc (.deferred (some []))) (.loop (rec .ready none)); rwa [World.size_alloc] at this
  have hK1 : W1.heap[w.heap.size]? = some (.deferred (some [])) := by
    rw [← hW1]; exact (Below.heap_alloc _ _ _ (by simp)).trans (World.alloc_heap_new w _)
  have hb1 : Below w.heap.size w W1 := by
    rw [← hW1]; exact ((Below.refl _ w).alloc (Nat.le_refl _) _).alloc (by simp) _
  have hlt1 := (Array.getElem?_eq_some_iff.1 hL1).1
  refine ⟨w.heap.size + 1, [{ target := .collected w.heap.size, args := #[] }], W1, { target := .fn (.func gf) lb, args := #[.func (.yield (w.heap.size + 1)) #[] #[]] }, W1, gf,
    #[.func (.yield (w.heap.size + 1)) #[] #[]] ++ lb, W1, ?_, ?_, ?_, ?_, fun _ => h1, ?_⟩
  · rw [← hW1, hrec]; exact run_enterLoop_outer _ _ _ _ _
  · simp only [resolve, hg]
    simp [go_sem]
  · intro f' hf'; simp [Target.leads] at hf'; subst hf'; exact hFg
  · simp [invoke, go_sem, eg]
  · have keep : ∀ (W W' : World) (k : Nat) (o : Obj), W.heap[k]? = some o → Below W.heap.size W W' → W'.heap[k]? = some o := fun W W' k o h hb => (hb.block k (Array.getElem?_eq_some_iff.1 h).1).trans h
    refine (hseq (w.heap.size + 1)
      (fun x W => ∃ c, Ix c x W ∧ W.heap[w.heap.size + 1]? = some (.loop (rec .done (some c))) ∧ W.heap[w.heap.size]? = some (.deferred (some [])))
      W1 hb1 (fun x => Abd.ex fun c => ((hIx c x).mono hb1.size).and ((Abd.loopAt _ _ hlt1 _).and (Abd.dfr _ _ (by omega) _))) ?_).mono ?_
    · rintro x V hV hok
      have hl := keep _ _ _ _ hL1 hV
      have hk := keep _ _ _ _ hK1 hV
      have hI : ([] : List α) = [] ∧ Below w.heap.size w V := ⟨rfl, hb1.trans (hV.mono hb1.size)⟩
      refine YieldAt.mono (rg_round (n := n - 1 - 1) (P := P) (S := fun _ _ => False) (Ok := fun _ x W => Ok x W) (I := fun pre V => pre = [] ∧ Below w.heap.size w V) (Ix := fun c xs W' => ∃ x, xs = [x] ∧ Ix c x W') (Ax := fun x a' _ => a' = A x) hfn (Nat.le_succ _) hps
        (fun pre => (Abd.pure _ _).and (Abd.belowOf (Nat.le_refl _) (Nat.le_refl _))) (fun c pre => Abd.ex fun x => (Abd.pure _ _).and (hIx c x)) (fun _ x => hOk x) (fun _ _ => Abd.pure _ _)
        (fun l pre x W K hi ho hK => hassign l x W K hi.2 ho fun a' ha => hK a' W (Below.refl _ _) ha)
        (fun l pre x a' W hl hr hi ho ha => by
          obtain ⟨rfl, hi⟩ := hi
          subst ha
          refine wpIn_mono (hbody l x W (by omega) hr hi ho) ?_
          intro e a2 W2 hp
          cases e with
          | normal => exact hp.2.2.elim
          | _ => exact hp)
        [] x V hI hok hrec hl) ?_
      rintro e W' (⟨he, ⟨⟨h2, _⟩, _⟩, _⟩ | ⟨he, ⟨c, ⟨y, hy, h2⟩, h3⟩, h5, h6⟩)
      · simp at h2
      · have : x = y := by simpa using hy
        subst this
        exact ⟨he, ⟨c, h2, h3, h5.dfr _ _ hk⟩, h5, fun k r hk' ho => h6 k r (by omega) ho⟩
    · rintro e W2 ⟨⟨v, rfl⟩, (⟨hE, hB⟩ | ⟨x, c, hi, hl, hk⟩)⟩
      · have hl := keep _ _ _ _ hL1 hB
        have hk := keep _ _ _ _ hK1 hB
        exact ⟨none, _, by have := run_endLoop (P := P) hl (by rw [hrec]; simp); rw [hrec] at this; exact this, hdone _ _ (Nat.le_refl _) hE ((Abd.belowOf (B := w.heap.size) (Nat.le_refl _) (Nat.le_refl _)).turn _ _ _ _ (by omega) (hb1.trans (hB.mono hb1.size)) hl) ((World.putObj_heap_other (by omega)).trans hk)⟩
      · exact ⟨some c, _, by have := run_endLoop (P := P) hl (by rw [hrec]; simp); rw [hrec] at this; exact this, hstop _ c x _ (Nat.le_refl _) ((hIx c x).turn _ _ _ _ (by omega) hi hl) ((World.putObj_heap_other (by omega)).trans hk)⟩
end
end Go.Proofs.Ytmjnelkeiogdcaa
