/- Lemmas for WitnessDraws: part 1. -/
import Derived.RangeFuncNested
import Derived.RangeFuncLeaves
import Derived.RangeFuncBound
import Derived.WalkKit
import Derived.WalkLawsBesides
import Derived.BigQuiet
import Derived.Deep.LoopGhost
import Derived.Deep.RegionWith
import Derived.Laws.CopyOwn
import Derived.Deep.MidRow
import Derived.Test.YtbcileppebpamaaGreatDoorProg
import Derived.Shelf.Strings.Split
import Derived.Shelf.Small.Strs
import Derived.Shelf.Strings.Prefix
import Derived.Deep.Quiet
import Derived.StillTail
import Derived.OrdersIn
import Derived.OrdersHeld
import Derived.OwnWalkIn
import Derived.RangeFuncCalls
import Derived.Deep.RegionHeld3
set_option linter.unusedSimpArgs false
set_option linter.unusedVariables false
namespace Go.Proofs.YtbcileppebpamaaGreatDoor
open Go Go.RowKit
set_option maxRecDepth 100000
/-- A loop's record, or a block for deferred calls. -/
def isBook : Obj → Bool
  | .loop _ | .deferred _ => true
  | _ => false
/-- Those lie as they lay. -/
structure KeepsL (W W' : World) : Prop where
  size : W.heap.size ≤ W'.heap.size
  same : ∀ (k : Nat) (o : Obj), W.heap[k]? = some o → isBook o = true → W'.heap[k]? = some o
theorem KeepsL.refl (W : World) : KeepsL W W := ⟨Nat.le_refl _, fun _ _ h _ => h⟩
theorem KeepsL.trans {A B C : World} (h : KeepsL A B) (k : KeepsL B C) : KeepsL A C := ⟨Nat.le_trans h.size k.size, fun b o ho hb => k.same b o (h.same b o ho hb) hb⟩
theorem KeepsL.below {W W' : World} (h : Below W.heap.size W W') : KeepsL W W' := ⟨h.size, fun k o ho _ => (h.block k (Array.getElem?_eq_some_iff.1 ho).1).trans ho⟩
theorem KeepsL.setCell {A W : World} (h : KeepsL A W) {b i : Nat} (v : Value) {cs : Array Value} {t : TypeId} {fr : Nat × Nat} (hb : W.heap[b]? = some (.cells cs t fr)) : KeepsL A (W.setCell ⟨b, i, none⟩ v) :=
  h.trans ⟨by simp, fun k o ho hk => by
    by_cases e : k = b
    · subst e; rw [hb] at ho; cases ho; cases hk
    · exact (heap_setCell_other W ⟨b, i, none⟩ k v e).trans ho⟩
theorem KeepsL.put {A W : World} (h : KeepsL A W) {b : Nat} (o' : Obj) {o0 : Obj} (hb : W.heap[b]? = some o0) (h0 : isBook o0 = false) : KeepsL A (W.putObj b o') :=
  h.trans ⟨by simp [World.putObj], fun k o ho hk => by
    by_cases e : k = b
    · subst e; rw [hb] at ho; cases ho; rw [h0] at hk; cases hk
    · exact (World.putObj_heap_other e).trans ho⟩
theorem KeepsL.to {A W W' : World} (h : KeepsL A W) (hb : Below W.heap.size W W') : KeepsL A W' := h.trans (.below hb)
/-- The blocks of which S speaks, if they are no such blocks, lie as they lay; so do the blocks for deferred calls. -/
structure KeptS (S : Nat → Prop) (W W' : World) : Prop where
  size : W.heap.size ≤ W'.heap.size
  app : ∀ (b : Nat), S b → ∀ (o : Obj), W.heap[b]? = some o → isBook o = false → W'.heap[b]? = some o
  dfr : ∀ (b : Nat) x, W.heap[b]? = some (.deferred x) → W'.heap[b]? = some (.deferred x)
instance (S : Nat → Prop) (W W' : World) : CoeFun (KeptS S W W') (fun _ => ∀ (b : Nat), S b → ∀ (o : Obj), W.heap[b]? = some o → isBook o = false → W'.heap[b]? = some o) := ⟨KeptS.app⟩
theorem KeptS.refl (S : Nat → Prop) (W : World) : KeptS S W W := ⟨Nat.le_refl _, fun _ _ _ h _ => h, fun _ _ h => h⟩
theorem KeptS.trans {S : Nat → Prop} {A B C : World} (h : KeptS S A B) (k : KeptS S B C) : KeptS S A C := ⟨Nat.le_trans h.size k.size, fun b hb o ho hk => k.app b hb o (h.app b hb o ho hk) hk, fun b x hx => k.dfr b x (h.dfr b x hx)⟩
theorem KeptS.below {S : Nat → Prop} {W W' : World} (h : Below W.heap.size W W') : KeptS S W W' := ⟨h.size, fun k _ _ ho _ => (h.block k (Array.getElem?_eq_some_iff.1 ho).1).trans ho, fun k _ ho => (h.block k (Array.getElem?_eq_some_iff.1 ho).1).trans ho⟩
theorem KeptS.to {S : Nat → Prop} {A W W' : World} (h : KeptS S A W) (hb : Below W.heap.size W W') : KeptS S A W' := h.trans (.below hb)
theorem setCell_deferred {W : World} {p : Addr} {v : Value} {b : Nat} {x} (h : W.heap[b]? = some (.deferred x)) : (W.setCell p v).heap[b]? = some (.deferred x) := by
  unfold World.setCell
  simp only [Array.getElem?_modify, h]
  split <;> rfl
theorem KeptS.setCell {S : Nat → Prop} {A W : World} (h : KeptS S A W) {b i : Nat} (v : Value) (hb : ¬ S b) : KeptS S A (W.setCell ⟨b, i, none⟩ v) :=
  h.trans ⟨by simp, fun k hk _ ho _ => (heap_setCell_other W ⟨b, i, none⟩ k v fun e => hb (by have e' : k = b := e; rw [← e']; exact hk)).trans ho, fun _ _ hx => setCell_deferred hx⟩
theorem KeptS.put {S : Nat → Prop} {A W : World} (h : KeptS S A W) {b : Nat} (o' : Obj) {o0 : Obj} (h0 : W.heap[b]? = some o0) (hk0 : isBook o0 = false) (hb : ¬ S b) : KeptS S A (W.putObj b o') :=
  h.trans ⟨by simp [World.putObj], fun _ hk _ ho _ => (World.putObj_heap_other fun e => hb (by rw [← e]; exact hk)).trans ho, fun k x hx => (World.putObj_heap_other fun e => by subst e; rw [h0] at hx; cases hx; cases hk0).trans hx⟩
theorem KeptS.turn (S : Nat → Prop) {W : World} {l : Nat} {r : Loop} (o' : Obj) (hl : W.heap[l]? = some (.loop r)) : KeptS S W (W.putObj l o') :=
  ⟨by simp [World.putObj], fun k _ _ ho hk => (World.putObj_heap_other fun e => by subst e; rw [hl] at ho; cases ho; cases hk).trans ho, fun k x hx => (World.putObj_heap_other fun e => by subst e; rw [hl] at hx; cases hx).trans hx⟩
/-- What is laid, and what is turned of loops' records and of blocks for deferred calls from block B on, leaves p. -/
structure Abd (B : Nat) (p : World → Prop) : Prop where
  below : ∀ W W', p W → Below W.heap.size W W' → p W'
  turn : ∀ (W : World) (l : Nat) (r r' : Loop), B ≤ l → p W → W.heap[l]? = some (.loop r) → p (W.putObj l (.loop r'))
  mark : ∀ (W : World) (D : Nat), B ≤ D → p W → W.heap[D]? = some (.deferred (some [])) → p (W.putObj D (.deferred none))
theorem Abd.and {B : Nat} {p q : World → Prop} (h : Abd B p) (k : Abd B q) : Abd B fun W => p W ∧ q W :=
  ⟨fun W W' hp hb => ⟨h.below W W' hp.1 hb, k.below W W' hp.2 hb⟩, fun W l r r' hl hp hr => ⟨h.turn W l r r' hl hp.1 hr, k.turn W l r r' hl hp.2 hr⟩, fun W D hl hp hr => ⟨h.mark W D hl hp.1 hr, k.mark W D hl hp.2 hr⟩⟩
theorem Abd.ex {B : Nat} {ι : Type} {p : ι → World → Prop} (h : ∀ i, Abd B (p i)) : Abd B fun W => ∃ i, p i W :=
  ⟨fun W W' ⟨i, hp⟩ hb => ⟨i, (h i).below W W' hp hb⟩, fun W l r r' hl ⟨i, hp⟩ hr => ⟨i, (h i).turn W l r r' hl hp hr⟩, fun W D hl ⟨i, hp⟩ hr => ⟨i, (h i).mark W D hl hp hr⟩⟩
theorem Abd.pure (B : Nat) (c : Prop) : Abd B fun _ => c := ⟨fun _ _ h _ => h, fun _ _ _ _ _ h _ => h, fun _ _ _ h _ => h⟩
theorem Abd.block (B k : Nat) (o : Obj) (ho : isBook o = false) : Abd B fun W => W.heap[k]? = some o :=
  ⟨fun _ _ h hb => (hb.block k (Array.getElem?_eq_some_iff.1 h).1).trans h,
   fun _ _ _ _ _ h hr => (World.putObj_heap_other fun e => by subst e; rw [h] at hr; cases hr; cases ho).trans h,
   fun _ _ _ h hr => (World.putObj_heap_other fun e => by subst e; rw [h] at hr; cases hr; cases ho).trans h⟩
theorem Abd.lt (B k : Nat) : Abd B fun W => k < W.heap.size := ⟨fun _ _ h hb => Nat.lt_of_lt_of_le h hb.size, fun _ _ _ _ _ h _ => by simpa [World.putObj] using h, fun _ _ _ h _ => by simpa [World.putObj] using h⟩
theorem Abd.le (B k : Nat) : Abd B fun W => k ≤ W.heap.size := ⟨fun _ _ h hb => Nat.le_trans h hb.size, fun _ _ _ _ _ h _ => by simpa [World.putObj] using h, fun _ _ _ h _ => by simpa [World.putObj] using h⟩
theorem Abd.belowOf {B n : Nat} {w : World} (hn : n ≤ w.heap.size) (hB : n ≤ B) : Abd B fun W => Below n w W :=
  ⟨fun _ _ h hb => h.trans (hb.mono (Nat.le_trans hn h.size)), fun W l r r' hl h hr => h.trans ⟨rfl, rfl, rfl, by simp [World.putObj], fun k hk => World.putObj_heap_other (by omega)⟩, fun W D hl h hr => h.trans ⟨rfl, rfl, rfl, by simp [World.putObj], fun k hk => World.putObj_heap_other (by omega)⟩⟩
theorem Abd.keepsL {B : Nat} {w : World} (hB : w.heap.size ≤ B) : Abd B fun W => KeepsL w W :=
  ⟨fun _ _ h hb => h.to hb, fun W l r r' hl h hr => ⟨Nat.le_trans h.size (by simp [World.putObj]), fun k o ho hk => (World.putObj_heap_other (by have := (Array.getElem?_eq_some_iff.1 ho).1; omega)).trans (h.same k o ho hk)⟩,
    fun W D hl h hr => ⟨Nat.le_trans h.size (by simp [World.putObj]), fun k o ho hk => (World.putObj_heap_other (by have := (Array.getElem?_eq_some_iff.1 ho).1; omega)).trans (h.same k o ho hk)⟩⟩
theorem Abd.keptS {B : Nat} {w : World} (S : Nat → Prop) (hB : w.heap.size ≤ B) : Abd B fun W => KeptS S w W :=
  ⟨fun _ _ h hb => h.to hb, fun W l r r' _ h hr => h.trans (KeptS.turn S _ hr), fun W D hD h hr => ⟨Nat.le_trans h.size (by simp [World.putObj]), fun b hb o ho hk => (World.putObj_heap_other (by have := (Array.getElem?_eq_some_iff.1 ho).1; omega)).trans (h.app b hb o ho hk), fun b x hx => (World.putObj_heap_other (by have := (Array.getElem?_eq_some_iff.1 hx).1; omega)).trans (h.dfr b x hx)⟩⟩
theorem Abd.mono {B B' : Nat} {p : World → Prop} (h : Abd B p) (hB : B ≤ B') : Abd B' p := ⟨h.below, fun W l r r' hl => h.turn W l r r' (Nat.le_trans hB hl), fun W D hl => h.mark W D (Nat.le_trans hB hl)⟩
/-- A loop's record below B lies as it lies. -/
theorem Abd.loopAt (B k : Nat) (hk : k < B) (x : Loop) : Abd B fun W => W.heap[k]? = some (.loop x) :=
  ⟨fun _ _ h hb => (hb.block k (Array.getElem?_eq_some_iff.1 h).1).trans h, fun W l r r' hl h hr => (World.putObj_heap_other (by omega)).trans h, fun W D hD h _ => (World.putObj_heap_other (by omega)).trans h⟩
/-- A block for deferred calls below B lies as it lies. -/
theorem Abd.dfr (B k : Nat) (hk : k < B) (x) : Abd B fun W => W.heap[k]? = some (.deferred x) :=
  ⟨fun _ _ h hb => (hb.block k (Array.getElem?_eq_some_iff.1 h).1).trans h, fun W l r r' _ h hr => (World.putObj_heap_other fun e => by subst e; rw [h] at hr; cases hr).trans h, fun W D hD h _ => (World.putObj_heap_other (by omega)).trans h⟩
section
variable {F : Fence} {n : Nat} {P : Program} {α : Type}
/-- How an iterator comes to its end: all has come, or a round said no more. -/
def SeqEnd (End : List α → Prop) (J Jx : List α → World → Prop) (W : World) : Prop := (∃ xs, End xs ∧ J xs W) ∨ ∃ pre, Jx pre W
theorem SeqEnd.all {End : List α → Prop} {J Jx : List α → World → Prop} {W : World} (xs : List α) (he : End xs) (h : J xs W) : SeqEnd End J Jx W := .inl ⟨xs, he, h⟩
theorem SeqEnd.stop {End : List α → Prop} {J Jx : List α → World → Prop} {W : World} (pre : List α) (h : Jx pre W) : SeqEnd End J Jx W := .inr ⟨pre, h⟩
/-- What a body keeps that leaves: the blocks for deferred calls, and the loops' records from its own on. -/
structure KeepsR (l : Nat) (W W' : World) : Prop where
  kept : KeptS (fun _ => False) W W'
  loops : ∀ (k : Nat) (r : Loop), l ≤ k → W.heap[k]? = some (.loop r) → W'.heap[k]? = some (.loop r)
theorem KeepsL.r {W W' : World} (h : KeepsL W W') (l : Nat) : KeepsR l W W' := ⟨⟨h.size, fun _ h => h.elim, fun b _ hx => h.same b _ hx rfl⟩, fun k _ _ hr => h.same k _ hr rfl⟩
/-- How the body of a round is left. -/
def rgPost (l : Nat) (S : Nat → Prop) (I : List α → World → Prop) (Ix : Code → List α → World → Prop) (xs : List α) (W : World) : Exit → Act → World → Prop
  | .normal, _, W' => KeepsL W W' ∧ KeptS S W W' ∧ I xs W'
  | .ret, _, W' => KeepsR l W W' ∧ Ix .ret xs W'
  | .exit id, _, W' => KeepsR l W W' ∧ Ix (.exit id) xs W'
  | _, _, _ => False
theorem rg_round {fn : FuncId} (hfn : F.fn fn) {tm : Array Value} {ps : Array Tmp} {assign body : Code} {D l B : Nat} (hB : B ≤ l) {encs : α → Array Value} (hps : ∀ x, (encs x).size = ps.size)
    {S : α → Nat → Prop} {Ok : List α → α → World → Prop} {I : List α → World → Prop} {Ix : Code → List α → World → Prop} (hI : ∀ pre, Abd B (I pre)) (hIx : ∀ c pre, Abd B (Ix c pre)) (hOk : ∀ pre x, Abd B (Ok pre x))
    {Ax : α → Act → World → Prop} (hAx : ∀ x a', Abd B (Ax x a'))
    (hassign : ∀ (l : Nat) (pre : List α) (x : α) (W : World) (K : Act → World → Prop), I pre W → Ok pre x W → (∀ a' W', Below W.heap.size W W' → Ax x a' W' → K a' W') →
      assign.wpIn (F.inRound l) n P (Exit.then K (fun _ _ _ => False)) { tmps := (ps.zip (encs x)).foldl (fun t (p, v) => t.setIfInBounds p v) tm, defers := [] } W)
    (hbody : ∀ (l : Nat) (pre : List α) (x : α) (a' : Act) (W : World), B ≤ l → (∃ r, W.heap[l]? = some (.loop r)) → I pre W → Ok pre x W → Ax x a' W → body.wpIn (F.inRound l) n P (rgPost l (S x) I Ix (pre ++ [x]) W) a' W)
    (pre : List α) (x : α) (W : World) (hi : I pre W) (hok : Ok pre x W) {rec : LoopState → Option Code → Loop} (hrec : rec = fun st pe => { state := st, pending := pe, fn := fn, tmps := tm, params := ps, assign := assign, body := body, defers := D })
    (hl : W.heap[l]? = some (.loop (rec .ready none))) :
    YieldAt F n P l (encs x) W fun e W' =>
      (e = .returned (.bool true) ∧ (I (pre ++ [x]) W' ∧ W'.heap[l]? = some (.loop (rec .ready none)) ∧ ∀ (k : Nat) (o : Obj), k ≠ l → W.heap[k]? = some o → isBook o = true → W'.heap[k]? = some o) ∧ KeptS (S x) W W') ∨
      (e = .returned (.bool false) ∧ (∃ c, Ix c (pre ++ [x]) W' ∧ W'.heap[l]? = some (.loop (rec .done (some c)))) ∧ KeptS (fun _ => False) W W' ∧ ∀ k r, l < k → W.heap[k]? = some (.loop r) → W'.heap[k]? = some (.loop r)) := by
  have hy := run_yield (P := P) (args := encs x) hl (by rw [hrec]; exact hps x)
  rw [hrec] at hy
  refine ⟨fn, _, assign, body, hy, roundIn_of_wpIn hfn (hassign _ pre x W _ hi hok ?_)⟩
  clear hy
  intro a' Wa hba hax
  have hla := (hba.block l (Array.getElem?_eq_some_iff.1 hl).1).trans hl
  have hlt := (Array.getElem?_eq_some_iff.1 hla).1
  refine ⟨_, run_beginRound hla (by rw [hrec]), ?_⟩
  obtain ⟨W2, hW2⟩ : ∃ W2, Wa.putObj l (.loop { rec .ready none with state := .busy }) = W2 := ⟨_, rfl⟩
  have hl2 : W2.heap[l]? = some (.loop { rec .ready none with state := .busy }) := by rw [← hW2]; exact World.putObj_heap_same hlt
  have hk2 : ∀ (k : Nat) (o : Obj), k ≠ l → W.heap[k]? = some o → isBook o = true → W2.heap[k]? = some o := fun k o hk ho _ => by
    rw [← hW2]
    exact (World.putObj_heap_other hk).trans ((hba.block k (Array.getElem?_eq_some_iff.1 ho).1).trans ho)
  have hi2 : I pre W2 := by rw [← hW2]; exact (hI pre).turn Wa l _ _ hB ((hI pre).below _ _ hi hba) hla
  have ho2 : Ok pre x W2 := by rw [← hW2]; exact (hOk pre x).turn Wa l _ _ hB ((hOk pre x).below _ _ hok hba) hla
  have ha2 : Ax x a' W2 := by rw [← hW2]; exact (hAx x a').turn Wa l _ _ hB hax hla
  have hs2 : KeptS (S x) W W2 := by rw [← hW2]; exact (KeptS.below hba).trans (KeptS.turn _ _ hla)
  rw [hW2]
  refine wpIn_mono (hbody _ pre x a' W2 hB ⟨_, hl2⟩ hi2 ho2 ha2) ?_
  have fin : ∀ (jump : Option Code) (W3 : World), KeepsR l W2 W3 →
      (Instr.endRound l jump).run P W3 = .ok (.bool jump.isNone) (W3.putObj l (.loop (rec (if jump.isNone then .ready else .done) jump))) ∧
      W3.heap[l]? = some (.loop { rec .ready none with state := .busy }) ∧
      (W3.putObj l (.loop (rec (if jump.isNone then .ready else .done) jump))).heap[l]? = some (.loop (rec (if jump.isNone then .ready else .done) jump)) ∧
      KeptS (fun _ => False) W (W3.putObj l (.loop (rec (if jump.isNone then .ready else .done) jump))) ∧
      ∀ (k : Nat) (r : Loop), l < k → W.heap[k]? = some (.loop r) → (W3.putObj l (.loop (rec (if jump.isNone then .ready else .done) jump))).heap[k]? = some (.loop r) := fun jump W3 hk3 => by
    have hl3 := hk3.loops _ _ (Nat.le_refl _) hl2
    have := run_endRound (P := P) jump hl3
    rw [hrec] at this ⊢
    exact ⟨this, by rw [hrec] at hl3; exact hl3, World.putObj_heap_same (Array.getElem?_eq_some_iff.1 hl3).1,
      ⟨Nat.le_trans hs2.size (Nat.le_trans hk3.kept.size (by simp [World.putObj])), fun _ h => h.elim, fun b x hx => (World.putObj_heap_other fun e => by subst e; rw [hl] at hx; cases hx).trans (hk3.kept.dfr b x (hs2.dfr b x hx))⟩,
      fun k r hk ho => (World.putObj_heap_other (by omega)).trans (hk3.loops k r (Nat.le_of_lt hk) (hk2 k _ (by omega) ho rfl))⟩
  rintro e a3 W3 hp
  cases e with
  | normal =>
    obtain ⟨hk3, hs3, hi3⟩ := hp
    obtain ⟨hr, hl3, hl4, _, _⟩ := fin none W3 (hk3.r l)
    exact ⟨_, _, hr, .inl ⟨rfl, ⟨(hI _).turn W3 l _ _ hB hi3 hl3, hl4, fun k o hk ho hb => (World.putObj_heap_other hk).trans (hk3.same k o (hk2 k o hk ho hb) hb)⟩, hs2.trans (hs3.trans (KeptS.turn _ _ hl3))⟩⟩
  | ret =>
    obtain ⟨hk3, hi3⟩ := hp
    obtain ⟨hr, hl3, hl4, hk4, hk5⟩ := fin (some .ret) W3 hk3
    exact ⟨_, _, hr, .inr ⟨rfl, ⟨.ret, (hIx _ _).turn W3 l _ _ hB hi3 hl3, hl4⟩, hk4, hk5⟩⟩
  | exit id =>
    obtain ⟨hk3, hi3⟩ := hp
    obtain ⟨hr, hl3, hl4, hk4, hk5⟩ := fin (some (.exit id)) W3 hk3
    exact ⟨_, _, hr, .inr ⟨rfl, ⟨.exit id, (hIx _ _).turn W3 l _ _ hB hi3 hl3, hl4⟩, hk4, hk5⟩⟩
  | goto t => exact hp.elim
  | panic ch => exact hp.elim
  | outgrown => exact hp.elim
end
end Go.Proofs.YtbcileppebpamaaGreatDoor
set_option linter.unusedSimpArgs false
set_option linter.unusedVariables false
namespace Go.Proofs.YtbcileppebpamaaGreatDoor
open Go Go.RowKit
set_option maxRecDepth 100000
section
variable {F : Fence} {n : Nat} {P : Program} {α : Type}
/-- What is asked of the iterator; k0: its own box. -/
def SeqW (F : Fence) (n : Nat) (P : Program) (g : Nat) (lb : Array Value) (encs : α → Array Value) (S : α → Nat → Prop) (k0 : Nat) (Ok : List α → α → World → Prop) (End : List α → Prop) (w : World) : Prop :=
  ∀ (l : Nat) (J Jx : List α → World → Prop) (W : World), Below w.heap.size w W → (∀ pre W1 W2, J pre W1 → Below W1.heap.size W1 W2 → J pre W2) → (∀ pre W1 v, J pre W1 → J pre (W1.setCell ⟨k0, 0, none⟩ v)) → (∀ pre, Abd W.heap.size (J pre) ∧ Abd W.heap.size (Jx pre)) →
    (∀ pre x W1, J pre W1 → Ok pre x W1 → YieldAt F (n - 1) P l (encs x) W1 fun e W' => (e = .returned (.bool true) ∧ J (pre ++ [x]) W' ∧ KeptS (S x) W1 W' ∧ KeepsL W1 W') ∨ (e = .returned (.bool false) ∧ Jx (pre ++ [x]) W' ∧ KeptS (fun _ => False) W1 W' ∧ ∀ k r, W.heap.size ≤ k → W1.heap[k]? = some (.loop r) → W'.heap[k]? = some (.loop r))) →
    J [] W → CallsIn F n P g (#[.func (.yield l) #[] #[]] ++ lb) W fun e W' => (∃ v, e = .returned v) ∧ SeqEnd End J Jx W'
/-- The law outside a round. -/
theorem rw_out {g : Operand} {ps : Array Tmp} {assign body : Code} {Q : Exit → Act → World → Prop} {a : Act} {w : World}
    {k0 : Nat} (hk0 : k0 < w.heap.size) (hro : F.round = none) (h1 : 1 ≤ n) {gf : Nat} {lb : Array Value} (hg : a.eval g = .func (.func gf) #[] lb) (hFg : F.fn gf) (eg : ∀ args w, (callFunc gf args).run P w = .ok (.enter gf args) w)
    {encs : α → Array Value} {S : α → Nat → Prop} {Ok : List α → α → World → Prop} {End : List α → Prop} (hseq : SeqW F (n - 1) P gf lb encs S k0 Ok End w) (hps : ∀ x, (encs x).size = ps.size)
    (I : List α → World → Prop) (Ix : Code → List α → World → Prop) (hI : ∀ pre, Abd w.heap.size (I pre)) (hIx : ∀ c pre, Abd w.heap.size (Ix c pre)) (hOk : ∀ pre x, Abd w.heap.size (Ok pre x)) (hIk : ∀ pre W v, I pre W → I pre (W.setCell ⟨k0, 0, none⟩ v)) (h0 : I [] w) (Ax : α → Act → World → Prop) (hAx : ∀ x a', Abd w.heap.size (Ax x a'))
    (hassign : ∀ (l : Nat) (pre : List α) (x : α) (W : World) (K : Act → World → Prop), I pre W → Ok pre x W → (∀ a' W', Below W.heap.size W W' → Ax x a' W' → K a' W') →
      assign.wpIn (F.inRound l) (n - 1 - 1) P (Exit.then K (fun _ _ _ => False)) { tmps := (ps.zip (encs x)).foldl (fun t (p, v) => t.setIfInBounds p v) a.tmps, defers := [] } W)
    (hbody : ∀ (l : Nat) (pre : List α) (x : α) (a' : Act) (W : World), w.heap.size ≤ l → (∃ r, W.heap[l]? = some (.loop r)) → I pre W → Ok pre x W → Ax x a' W → body.wpIn (F.inRound l) (n - 1 - 1) P (rgPost l (S x) I Ix (pre ++ [x]) W) a' W)
    (hdone : ∀ (D : Nat) (xs : List α) (W : World), w.heap.size ≤ D → End xs → I xs W → W.heap[D]? = some (.deferred (some [])) → Q .normal { a with defers := { target := .collected D, args := #[] } :: a.defers } W)
    (hstop : ∀ (D : Nat) (c : Code) (pre : List α) (W : World), w.heap.size ≤ D → Ix c pre W → W.heap[D]? = some (.deferred (some [])) → c.wpIn F n P Q { a with defers := { target := .collected D, args := #[] } :: a.defers } W) :
    (Code.rangeFunc g ps assign body).wpIn F n P Q a w := by
  refine wpIn_rangeFunc ?_
  intro fn hfn
  rw [hro]
  obtain ⟨rec, hrec⟩ : ∃ rec : LoopState → Option Code → Loop, rec = fun st pe => { state := st, pending := pe, fn := fn, tmps := a.tmps, params := ps, assign := assign, body := body, defers := w.heap.size } := ⟨_, rfl⟩
  obtain ⟨W1, hW1⟩ : ∃ W1, (w.alloc (.deferred (some []))).alloc (.loop (rec .ready none)) = W1 := ⟨_, rfl⟩
  have hL1 : W1.heap[w.heap.size + 1]? = some (.loop (rec .ready none)) := by
    rw [← hW1]; have := World.alloc_heap_new (w.alloc (.deferred (some []))) (.loop (rec .ready none)); rwa [World.size_alloc] at this
  have hK1 : W1.heap[w.heap.size]? = some (.deferred (some [])) := by
    rw [← hW1]; exact (Below.heap_alloc _ _ _ (by simp)).trans (World.alloc_heap_new w _)
  have hb1 : Below w.heap.size w W1 := by
    rw [← hW1]; exact ((Below.refl _ w).alloc (Nat.le_refl _) _).alloc (by simp) _
  have hI1 : I [] W1 := (hI []).below _ _ h0 hb1
  refine ⟨w.heap.size + 1, [{ target := .collected w.heap.size, args := #[] }], W1, { target := .fn (.func gf) lb, args := #[.func (.yield (w.heap.size + 1)) #[] #[]] }, W1, gf,
    #[.func (.yield (w.heap.size + 1)) #[] #[]] ++ lb, W1, ?_, ?_, ?_, ?_, fun _ => h1, ?_⟩
  · rw [← hW1, hrec]; exact run_enterLoop_outer _ _ _ _ _
  · simp only [resolve, hg]
    simp [go_sem]
  · intro f' hf'; simp [Target.leads] at hf'; subst hf'; exact hFg
  · simp [invoke, go_sem, eg]
  · have keep : ∀ (W W' : World) (k : Nat) (o : Obj), W.heap[k]? = some o → Below W.heap.size W W' → W'.heap[k]? = some o := fun W W' k o h hb => (hb.block k (Array.getElem?_eq_some_iff.1 h).1).trans h
    refine (hseq (w.heap.size + 1)
      (fun pre W => I pre W ∧ W.heap[w.heap.size + 1]? = some (.loop (rec .ready none)) ∧ W.heap[w.heap.size]? = some (.deferred (some [])))
      (fun pre W => ∃ c, Ix c pre W ∧ W.heap[w.heap.size + 1]? = some (.loop (rec .done (some c))) ∧ W.heap[w.heap.size]? = some (.deferred (some [])))
      W1 hb1 (fun pre A C hs hb => ⟨(hI pre).below _ _ hs.1 hb, keep _ _ _ _ hs.2.1 hb, keep _ _ _ _ hs.2.2 hb⟩)
      (fun pre A v hs => ⟨hIk pre A v hs.1, (heap_setCell_other A ⟨k0, 0, none⟩ _ v (show w.heap.size + 1 ≠ k0 by omega)).trans hs.2.1, (heap_setCell_other A ⟨k0, 0, none⟩ _ v (show w.heap.size ≠ k0 by omega)).trans hs.2.2⟩)
      (fun pre => ⟨((hI pre).mono hb1.size).and ((Abd.loopAt _ _ (Array.getElem?_eq_some_iff.1 hL1).1 _).and (Abd.dfr _ _ (Array.getElem?_eq_some_iff.1 hK1).1 _)),
        Abd.ex fun c => ((hIx c pre).mono hb1.size).and ((Abd.loopAt _ _ (Array.getElem?_eq_some_iff.1 hL1).1 _).and (Abd.dfr _ _ (Array.getElem?_eq_some_iff.1 hK1).1 _))⟩) ?_ ⟨hI1, hL1, hK1⟩).mono ?_
    · rintro pre x W ⟨hi, hl, hk⟩ hok
      refine YieldAt.mono (rg_round (n := n - 1 - 1) (P := P) (S := S) hfn (Nat.le_succ _) hps hI hIx hOk hAx hassign (fun l pre x a' W hl => hbody l pre x a' W (by omega)) pre x W hi hok hrec hl) ?_
      rintro e W' (⟨he, ⟨h2, h3, h4⟩, h5⟩ | ⟨he, ⟨c, h2, h3⟩, h5, h6⟩)
      · exact .inl ⟨he, ⟨h2, h3, h4 _ _ (by omega) hk rfl⟩, h5, ⟨h5.size, fun k o ho hb => (Classical.em (k = w.heap.size + 1)).elim (fun e => by subst e; rw [hl] at ho; cases ho; exact h3) fun hne => h4 k o hne ho hb⟩⟩
      · exact .inr ⟨he, ⟨c, h2, h3, h5.dfr _ _ hk⟩, h5, fun k r hk' ho => h6 k r (by have := (Array.getElem?_eq_some_iff.1 hL1).1; omega) ho⟩
    · rintro e W2 ⟨⟨v, rfl⟩, (⟨xs, hS, hi, hl, hk⟩ | ⟨pre, c, hi, hl, hk⟩)⟩
      · exact ⟨none, _, by have := run_endLoop (P := P) hl (by rw [hrec]; simp); rw [hrec] at this; exact this, hdone _ xs _ (Nat.le_refl _) hS ((hI xs).turn _ _ _ _ (by omega) hi hl) ((World.putObj_heap_other (by omega)).trans hk)⟩
      · exact ⟨some c, _, by have := run_endLoop (P := P) hl (by rw [hrec]; simp); rw [hrec] at this; exact this, hstop _ c pre _ (Nat.le_refl _) ((hIx c pre).turn _ _ _ _ (by omega) hi hl) ((World.putObj_heap_other (by omega)).trans hk)⟩
/-- The frame in a round is a function of what was handed out. -/
theorem rw_outA {g : Operand} {ps : Array Tmp} {assign body : Code} {Q : Exit → Act → World → Prop} {a : Act} {w : World}
    {k0 : Nat} (hk0 : k0 < w.heap.size) (hro : F.round = none) (h1 : 1 ≤ n) {gf : Nat} {lb : Array Value} (hg : a.eval g = .func (.func gf) #[] lb) (hFg : F.fn gf) (eg : ∀ args w, (callFunc gf args).run P w = .ok (.enter gf args) w)
    {encs : α → Array Value} {S : α → Nat → Prop} {Ok : List α → α → World → Prop} {End : List α → Prop} (hseq : SeqW F (n - 1) P gf lb encs S k0 Ok End w) (hps : ∀ x, (encs x).size = ps.size)
    (I : List α → World → Prop) (Ix : Code → List α → World → Prop) (hI : ∀ pre, Abd w.heap.size (I pre)) (hIx : ∀ c pre, Abd w.heap.size (Ix c pre)) (hOk : ∀ pre x, Abd w.heap.size (Ok pre x)) (hIk : ∀ pre W v, I pre W → I pre (W.setCell ⟨k0, 0, none⟩ v)) (h0 : I [] w) {A : α → Act}
    (hassign : ∀ (l : Nat) (pre : List α) (x : α) (W : World) (K : Act → World → Prop), I pre W → Ok pre x W → (∀ a', a' = A x → K a' W) →
      assign.wpIn (F.inRound l) (n - 1 - 1) P (Exit.then K (fun _ _ _ => False)) { tmps := (ps.zip (encs x)).foldl (fun t (p, v) => t.setIfInBounds p v) a.tmps, defers := [] } W)
    (hbody : ∀ (l : Nat) (pre : List α) (x : α) (W : World), w.heap.size ≤ l → (∃ r, W.heap[l]? = some (.loop r)) → I pre W → Ok pre x W → body.wpIn (F.inRound l) (n - 1 - 1) P (rgPost l (S x) I Ix (pre ++ [x]) W) (A x) W)
    (hdone : ∀ (D : Nat) (xs : List α) (W : World), w.heap.size ≤ D → End xs → I xs W → W.heap[D]? = some (.deferred (some [])) → Q .normal { a with defers := { target := .collected D, args := #[] } :: a.defers } W)
    (hstop : ∀ (D : Nat) (c : Code) (pre : List α) (W : World), w.heap.size ≤ D → Ix c pre W → W.heap[D]? = some (.deferred (some [])) → c.wpIn F n P Q { a with defers := { target := .collected D, args := #[] } :: a.defers } W) :
    (Code.rangeFunc g ps assign body).wpIn F n P Q a w :=
  rw_out hk0 hro h1 hg hFg eg hseq hps I Ix hI hIx hOk hIk h0 (fun x a' _ => a' = A x) (fun _ _ => Abd.pure _ _)
    (fun l pre x W K hi ho hK => hassign l pre x W K hi ho fun a' ha => hK a' W (Below.refl _ _) ha)
    (fun l pre x a' W hl hr hi ho ha => by subst ha; exact hbody l pre x W hl hr hi ho) hdone hstop
end
end Go.Proofs.YtbcileppebpamaaGreatDoor
set_option linter.unusedSimpArgs false
set_option linter.unusedVariables false
namespace Go.Proofs.YtbcileppebpamaaGreatDoor
open Go Go.RowKit
theorem hid {p : Prop} (h : p) : Hid p := h
/-- A row of ints. -/
def irow (n : Nat) (S : Nat → Int) : Array Value := Array.ofFn (n := n) fun i => .int .i64 (S i)
@[go_sem, simp] theorem irow_size (n : Nat) (S : Nat → Int) : (irow n S).size = n := by simp [irow]
@[go_sem] theorem irow_get (n : Nat) (S : Nat → Int) (i : Nat) (h : i < n) : (irow n S)[i]? = some (.int .i64 (S i)) := by simp [irow, h]
@[go_sem, simp] theorem irow_elem (n : Nat) (S : Nat → Int) (i : Nat) (h : i < (irow n S).size) : (irow n S)[i] = .int .i64 (S i) := by simp [irow]
/-- One place written. -/
def upd (S : Nat → Int) (j : Nat) (v : Int) : Nat → Int := fun i => if i = j then v else S i
theorem irow_set (n : Nat) (S : Nat → Int) (j : Nat) (v : Int) : (irow n S).setIfInBounds j (.int .i64 v) = irow n (upd S j v) := by
  apply Array.ext
  · simp
  · intro i h1 h2
    simp only [Array.size_setIfInBounds, irow_size] at h1
    rw [irow_elem, Array.getElem_setIfInBounds (by simpa using h1)]
    by_cases e : j = i
    · subst e; simp [upd]
    · rw [if_neg e, irow_elem]; simp [upd, Ne.symm e]
/-- A figure. -/
def Fig (f : Int) : Prop := 0 ≤ f ∧ f ≤ 15
instance (f : Int) : Decidable (Fig f) := inferInstanceAs (Decidable (_ ∧ _))
/-- The parents' table, flat. -/
def parT : List Int := [0,0, 0,0, 0,0, 0,0, 0,0, 0,0, 0,0, 0,0, 0,1, 2,3, 4,5, 6,7, 8,9, 10,11, 12,13, 14,0]
def par (i : Nat) : Int := parT.getD i 0
theorem below_drewN {B : Nat} {a w : World} (h : Below B a w) (n : Nat) : Below B a (w.drewN n) := ⟨h.os, h.tape, h.output, h.size, h.block⟩
/-- From bits of non-negative ints to bits of naturals. -/
theorem bits_nat (a : Nat) (h : a < 9223372036854775808) : (BitVec.ofInt 64 (a : Int)).toNat = a := by
  rw [BitVec.toNat_ofInt]; omega
theorem wrap_nat (a : Nat) (h : a < 9223372036854775808) : IntKind.i64.wrap (a : Int) = a := IntWalk.i64_in _ (by omega)
theorem i64_xor (a b : Nat) (ha : a < 9223372036854775808) (hb : b < 9223372036854775808) : bits .xor .i64 (a : Int) (b : Int) = ((a ^^^ b : Nat) : Int) := by
  show IntKind.i64.wrap (((BitVec.ofInt 64 (a : Int) ^^^ BitVec.ofInt 64 (b : Int)).toNat : Nat) : Int) = _
  rw [BitVec.toNat_xor, bits_nat a ha, bits_nat b hb]
  exact wrap_nat _ (Nat.xor_lt_two_pow (n := 63) ha hb)
end Go.Proofs.YtbcileppebpamaaGreatDoor
namespace Go.Proofs.YtbcileppebpamaaGreatDoor
open Go Go.RowKit
set_option maxRecDepth 100000
def over (m : Nat) (T S : Nat → Int) : Nat → Int := fun i => if i < m then T i else S i
theorem irow_one (n : Nat) (S : Nat → Int) : ∀ v ∈ (irow n S).toList, v.oneCell' = true := fun v hv => by
  obtain ⟨i, hi, rfl⟩ := List.getElem_of_mem hv
  simp at hi ⊢
  rfl
theorem irow_all (n : Nat) (S : Nat → Int) : (irow n S).all (·.oneCell') = true := by
  rw [Array.all_eq_true_iff_forall_mem]; intro v hv; exact irow_one n S v (by simpa using hv)
/-- Cells of a row of ints. -/
theorem cell_irow {w : World} {g n : Nat} {S : Nat → Int} {t : TypeId} (hg : w.heap[g]? = some (.cells (irow n S) t (0, 0))) (i : Nat) (hi : i < n) : w.cell? ⟨g, i, none⟩ = some (.int .i64 (S i)) := by
  rw [cell_of_row _ _ i _ _ (0, 0) hg, irow_get _ _ _ hi]
theorem heap_below {B : Nat} {w w' : World} (h : Below B w w') {g : Nat} {o : Obj} (hg : w.heap[g]? = some o) (hB : g < B) : w'.heap[g]? = some o := (h.block g hB).trans hg
theorem heap_lt {w : World} {g : Nat} {o : Obj} (hg : w.heap[g]? = some o) : g < w.heap.size := (Array.getElem?_eq_some_iff.1 hg).1
theorem set_irow {w : World} {g n : Nat} {S : Nat → Int} {t : TypeId} (hg : w.heap[g]? = some (.cells (irow n S) t (0, 0))) (j : Nat) (v : Int) : (w.setCell ⟨g, j, none⟩ (.int .i64 v)).heap[g]? = some (.cells (irow n (upd S j v)) t (0, 0)) := by
  rw [heap_setCell_same w g j _ t _ hg, irow_set]
/-- An array type of n cells. -/
structure ArrT (P : Program) (T n : Nat) : Prop where
  und : ∃ m e, P.underlying T = some (.array m e)
  siz : (P.info? T).map (·.size) = some n
theorem ldrow {P : Program} {T n : Nat} (hT : ArrT P T n) {ops : Array Oper} {rest : List Oper} {o : Oper} {a : Act} {w : World} {Q : Exit → Act → World → Prop} (x : Operand) (hgd : o.guard = none) (ho : o.op = .load T x)
    (g : Nat) (hx : a.eval x = .pointer (some ⟨g, 0, none⟩)) (S : Nat → Int) (t : TypeId) (hg : w.heap[g]? = some (.cells (irow n S) t (0, 0)))
    (h : wpList P ops Q rest (a.put o.dst (.agg (irow n S))) w) : wpList P ops Q (o :: rest) a w := by
  obtain ⟨m, e, hu⟩ := hT.und
  exact wpList_load_row hgd T x ho g hx t _ (0, 0) _ hg hu rfl (by rw [irow_size]; exact hT.siz) h
theorem strow {P : Program} {T n : Nat} (hT : ArrT P T n) {ops : Array Oper} {rest : List Oper} {o : Oper} {a : Act} {w : World} {Q : Exit → Act → World → Prop} (x y : Operand) (hgd : o.guard = none) (ho : o.op = .store T x y)
    (g : Nat) (V : Nat → Int) (hx : a.eval x = .pointer (some ⟨g, 0, none⟩)) (hy : a.eval y = .agg (irow n V)) (S : Nat → Int) (t : TypeId) (hg : w.heap[g]? = some (.cells (irow n S) t (0, 0)))
    (h : wpList P ops Q rest (a.put o.dst undef) (w.setRow g (irow n V))) : wpList P ops Q (o :: rest) a w :=
  wpList_store_row hgd T x y ho g _ hx hy t _ hg (by rw [irow_size]; exact hT.siz) (by simp) (irow_all _ _) h
/-- A row of naturals. -/
def cst (F : Nat → Nat) : Nat → Int := fun i => (F i : Nat)
@[go_sem, simp] theorem cst_app (F : Nat → Nat) (i : Nat) : cst F i = ((F i : Nat) : Int) := rfl
def upN (F : Nat → Nat) (j v : Nat) : Nat → Nat := fun i => if i = j then v else F i
def overN (m : Nat) (T S : Nat → Nat) : Nat → Nat := fun i => if i < m then T i else S i
theorem upd_cst (F : Nat → Nat) (j v : Nat) : upd (cst F) j (v : Nat) = cst (upN F j v) := by
  funext i; simp only [upd, cst, upN]; split <;> rfl
end Go.Proofs.YtbcileppebpamaaGreatDoor
namespace Go.Proofs.YtbcileppebpamaaGreatDoor
open Go Go.RowKit
/-- The bits of a daughter: line s of the first i mothers. -/
def dg (F : Nat → Nat) (s : Nat) : Nat → Nat
  | 0 => 0
  | i + 1 => dg F s i ||| (F i / 2 ^ s % 2 * 2 ^ i)
def pa (k : Nat) : Nat := (par (k * 2)).toNat
def pb (k : Nat) : Nat := (par (k * 2 + 1)).toNat
/-- The figure that follows at a place. -/
def fol (F : Nat → Nat) (k : Nat) : Nat := if 8 ≤ k then F (pa k) ^^^ F (pb k) else dg F (k - 4) 4
/-- The chart after n derived places. -/
def up (M : Nat → Nat) : Nat → Nat → Nat
  | 0 => overN 4 M (fun _ => 0)
  | n + 1 => upN (up M n) (n + 4) (fol (up M n) (n + 4))
def Ok (F : Nat → Nat) : Prop := ∀ i, F i < 16
end Go.Proofs.YtbcileppebpamaaGreatDoor
set_option linter.unusedSimpArgs false
set_option linter.unusedVariables false
namespace Go.Proofs.YtbcileppebpamaaGreatDoor
open Go Go.Shelf Go.Proofs
def lays146_ren : Go.Shelf.Ren := ⟨fun | 146 => 26 | 221 => 66 | 268 => 86 | 138 => 87 | 143 => 88 | 195 => 112 | 197 => 113 | 218 => 114 | 219 => 115 | 260 => 133 | 217 => 102 | 225 => 134 | 224 => 135 | 267 => 136 | 266 => 121 | 314 => 145 | n => n, fun | 9 => 9 | 31 => 22 | 3 => 3 | 4 => 4 | 0 => 0 | 105 => 169 | 21 => 21 | 5 => 5 | 46 => 160 | 119 => 202 | 139 => 205 | 138 => 204 | 146 => 183 | 51 => 182 | n => n, fun | 1 => 2 | 3 => 4 | 4 => 5 | n => n⟩
theorem lays146 : Go.Proofs.Lays.n146 Tryz.prog lays146_ren := {
  mixed := by kernel_rfl
  f138 := Tryz.func87.trans (congrArg some (by kernel_rfl))
  f143 := Tryz.func88.trans (congrArg some (by kernel_rfl))
  f146 := Tryz.func26.trans (congrArg some (by kernel_rfl))
  f195 := Tryz.func112.trans (congrArg some (by kernel_rfl))
  f197 := Tryz.func113.trans (congrArg some (by kernel_rfl))
  f217 := Tryz.func102.trans (congrArg some (by kernel_rfl))
  f218 := Tryz.func114.trans (congrArg some (by kernel_rfl))
  f219 := Tryz.func115.trans (congrArg some (by kernel_rfl))
  f221 := Tryz.func66.trans (congrArg some (by kernel_rfl))
  f224 := Tryz.func135.trans (congrArg some (by kernel_rfl))
  f225 := Tryz.func134.trans (congrArg some (by kernel_rfl))
  f260 := Tryz.func133.trans (congrArg some (by kernel_rfl))
  f266 := Tryz.func121.trans (congrArg some (by kernel_rfl))
  f267 := Tryz.func136.trans (congrArg some (by kernel_rfl))
  f268 := Tryz.func86.trans (congrArg some (by kernel_rfl))
  f314 := Tryz.func145.trans (congrArg some (by kernel_rfl))
  t0 := Tryz.underlying0
  a0 := Tryz.isAgg0
  z0 := Tryz.sizeOf0
  v0 := Tryz.zeroValue0
  t3 := Tryz.underlying3
  a3 := Tryz.isAgg3
  z3 := Tryz.sizeOf3
  v3 := Tryz.zeroValue3
  t4 := Tryz.underlying4
  a4 := Tryz.isAgg4
  z4 := Tryz.sizeOf4
  v4 := Tryz.zeroValue4
  t5 := Tryz.underlying5
  a5 := Tryz.isAgg5
  z5 := Tryz.sizeOf5
  v5 := Tryz.zeroValue5
  t9 := Tryz.underlying9
  a9 := Tryz.isAgg9
  z9 := Tryz.sizeOf9
  v9 := Tryz.zeroValue9
  t21 := Tryz.underlying21
  a21 := Tryz.isAgg21
  z21 := Tryz.sizeOf21
  v21 := Tryz.zeroValue21
  t31 := Tryz.underlying22
  a31 := Tryz.isAgg22
  z31 := Tryz.sizeOf22
  v31 := Tryz.zeroValue22
  t46 := Tryz.underlying160
  a46 := Tryz.isAgg160
  z46 := Tryz.sizeOf160
  v46 := Tryz.zeroValue160
  t51 := Tryz.underlying182
  a51 := Tryz.isAgg182
  z51 := Tryz.sizeOf182
  v51 := Tryz.zeroValue182
  t105 := Tryz.underlying169
  a105 := Tryz.isAgg169
  z105 := Tryz.sizeOf169
  v105 := Tryz.zeroValue169
  t119 := Tryz.underlying202
  a119 := Tryz.isAgg202
  z119 := Tryz.sizeOf202
  t138 := Tryz.underlying204
  a138 := Tryz.isAgg204
  z138 := Tryz.sizeOf204
  v138 := Tryz.zeroValue204
  t139 := Tryz.underlying205
  a139 := Tryz.isAgg205
  z139 := Tryz.sizeOf205
  v139 := Tryz.zeroValue205
  t146 := Tryz.underlying183
  a146 := Tryz.isAgg183
  z146 := Tryz.sizeOf183
  v146 := Tryz.zeroValue183
  g1 := by kernel_rfl
  g3 := by kernel_rfl
  g4 := by kernel_rfl }
open Go.RowKit Go.Lib in
/-- strings.Split. (LAID: no walk: one application.) -/
theorem strings_Split (s sep : ByteArray) (m : Int) (w : World) (hs : s.size < 4294967281) (hm : w.cell? ⟨2, 0, none⟩ = some (.int .i64 m)) (h1 : 1 ≤ sep.size) :
    Calls Tryz.prog 26 #[.string s, .string sep] w fun e w' =>
      e = .returned (.slice (some ⟨w.heap.size, 0, none⟩) (Lib.countB s sep + 1) (Lib.countB s sep + 1)) ∧ w' = w.alloc (.cells ((Lib.splitB sep 0 (Lib.countB s sep) s).map Value.string).toArray 9) := Any.strings_Split lays146 (by kernel_rfl) s sep m w hs hm h1
def lays137_ren : Go.Shelf.Ren := ⟨fun | 137 => 76 | 217 => 102 | 266 => 121 | n => n, fun | 9 => 9 | 5 => 5 | 3 => 3 | n => n, fun | n => n⟩
theorem lays137 : Go.Proofs.Lays.n137 Tryz.prog lays137_ren := {
  mixed := by kernel_rfl
  f137 := Tryz.func76.trans (congrArg some (by kernel_rfl))
  f217 := Tryz.func102.trans (congrArg some (by kernel_rfl))
  f266 := Tryz.func121.trans (congrArg some (by kernel_rfl))
  t3 := Tryz.underlying3
  a3 := Tryz.isAgg3
  z3 := Tryz.sizeOf3
  v3 := Tryz.zeroValue3
  t5 := Tryz.underlying5
  a5 := Tryz.isAgg5
  z5 := Tryz.sizeOf5
  v5 := Tryz.zeroValue5
  t9 := Tryz.underlying9
  a9 := Tryz.isAgg9
  z9 := Tryz.sizeOf9
  v9 := Tryz.zeroValue9 }
open Go.RowKit in
/-- strings.IndexByte: "IndexByte returns the index of the first instance of c in s, or -1 if c is not present in s.": IT RETURNS 'Lib.indexByte s c'; the world is as it was. (LAID: no walk: one application.) -/
theorem strings_IndexByte (s : ByteArray) (c : Int) (w : World) :
    Calls Tryz.prog 76 #[.string s, .int .u8 c] w fun e w' => e = .returned (.int .i64 (Lib.indexByte s.data.toList c.toNat.toUInt8)) ∧ w' = w := Any.strings_IndexByte lays137 s c w
def lays207_ren : Go.Shelf.Ren := ⟨fun | 207 => 103 | n => n, fun | 9 => 9 | 4 => 4 | 3 => 3 | n => n, fun | n => n⟩
theorem lays207 : Go.Proofs.Lays.n207 Tryz.prog lays207_ren := {
  mixed := by kernel_rfl
  f207 := Tryz.func103.trans (congrArg some (by kernel_rfl))
  t3 := Tryz.underlying3
  a3 := Tryz.isAgg3
  z3 := Tryz.sizeOf3
  v3 := Tryz.zeroValue3
  t4 := Tryz.underlying4
  a4 := Tryz.isAgg4
  z4 := Tryz.sizeOf4
  v4 := Tryz.zeroValue4
  t9 := Tryz.underlying9
  a9 := Tryz.isAgg9
  z9 := Tryz.sizeOf9
  v9 := Tryz.zeroValue9 }
open Go.RowKit Go.Lib in
/-- internal/stringslite.HasSuffix (what strings.HasSuffix calls). (LAID: no walk: one application.) -/
theorem stringslite_HasSuffix (s p : ByteArray) (w : World) (hs : s.size ≤ 9223372036854775807) :
    Calls Tryz.prog 103 #[.string s, .string p] w fun e w' => e = .returned (.bool (Lib.hasSuffix s.data.toList p.data.toList)) ∧ w' = w := Any.stringslite_HasSuffix lays207 s p w hs
end Go.Proofs.YtbcileppebpamaaGreatDoor
set_option linter.unusedSimpArgs false
set_option linter.unusedVariables false
namespace Go.Proofs.YtbcileppebpamaaGreatDoor
open Go Go.RowKit
set_option maxRecDepth 100000
theorem rows_wide {n : Nat} {P : Program} {r : String} {args : Array Value} {w : World} {R : Value → World → Prop} (h : Rows P r args w R) : RowsIn Fence.wide n P r args w R := fun c cs _ => let ⟨v, w', hr, s⟩ := h c cs; ⟨v, w', hr, stepsIn_wide.2 s⟩
/-- A fence that lets every function in, at any depth. -/
structure Lets (F : Fence) : Prop where
  fn : ∀ f, F.fn f
  depth : F.depth = none
  calls : ∀ {n : Nat} {P : Program} {f : FuncId} {args : Array Value} {w : World} {R : Ending → World → Prop}, Calls P f args w R → CallsIn F n P f args w R
  rows : ∀ {n : Nat} {P : Program} {r : String} {args : Array Value} {w : World} {R : Value → World → Prop}, Rows P r args w R → RowsIn F n P r args w R
theorem lets_wide : Lets Fence.wide := ⟨fun _ => trivial, rfl, fun h => callsIn_wide.2 h, fun h => rows_wide h⟩
theorem lets_round (l : Nat) : Lets (Fence.wide.inRound l) := ⟨fun _ => trivial, rfl, fun h => CallsIn.inRound l (callsIn_wide.2 h), fun h => show RowsIn Fence.wide _ _ _ _ _ _ from rows_wide h⟩
section
variable {P : Program} {ops : Array Oper} {md : Region.Mode} {C : World → Prop} {F : Fence} {m : Nat}
def noDefer (ops : Array Oper) : Bool := ops.all fun o => match o.op with | .defer _ => false | _ => true
theorem noDefer_spec (h : noDefer ops = true) {j : Nat} {o : Oper} (ho : ops[j]? = some o) : ∀ c, o.op ≠ .defer c := by
  intro c e
  have := Array.all_eq_true_iff_forall_mem.1 h o (Array.mem_of_getElem? ho)
  simp [e] at this
/-- What holds of a region outside every fence holds inside such a fence. -/
theorem oper_in (hF : Lets F) {o : Oper} (hd : ∀ c, o.op ≠ .defer c) {a : Act} {w : World} {K K' : Act → World → Prop} {Q' : Exit → Act → World → Prop} (hK : ∀ a w, K a w → K' a w) (h : o.wp P a w K Q') : o.wpIn F m P a w K' Q' := by
  unfold Oper.wp at h
  unfold Oper.wpIn
  refine ⟨fun f _ => hF.fn f, ?_⟩
  rw [Oper.semAt_plain F _ o hd]
  have hdep : F.depth.isSome = true → 1 ≤ m := fun h => by rw [hF.depth] at h; cases h
  generalize (execOp a.eval o).run P w = r at *
  cases r with
  | ok x w' =>
    cases x <;> simp only [Oper.upon] at h <;> simp only [Oper.uponIn]
    case value => exact hK _ _ h
    case skip => exact hK _ _ h
    case defer => exact hK _ _ h
    case enter => exact ⟨hdep, hF.calls (h.mono fun e w'' he => by cases e <;> first | exact hK _ _ he | exact he)⟩
    case row => exact ⟨hdep, hF.rows (h.mono fun v w'' he => hK _ _ he)⟩
  | halt x w' => cases x <;> simp only [Oper.upon] at h <;> simp only [Oper.uponIn] <;> exact h
theorem any_in (hF : Lets F) (hnd : noDefer ops = true) {Q' : Exit → Act → World → Prop} (hno : ¬ LetsOut Q') : ∀ (fuel : Nat) (listed : Array Bool) (a : Act) (w : World), wpAny P md ops Q' fuel listed a w → wpAnyIn F m P md ops Q' fuel listed a w
  | 0, _, _, _, h => h
  | fuel + 1, listed, a, w, h => by
    refine ⟨h.1, fun i hi => ?_⟩
    have h1 := h.2 i hi
    unfold wpOp at h1
    unfold wpOpIn
    split
    · rename_i ho; simp only [ho] at h1; exact any_in hF hnd hno fuel _ _ _ h1
    · rename_i o ho
      simp only [ho] at h1
      split
      · rename_i hw
        simp only [hw, if_true] at h1
        rcases h1 with h1 | h1
        · exact oper_in hF (noDefer_spec hnd ho) (fun a' w' h' => any_in hF hnd hno fuel _ _ _ h') h1
        · exact absurd h1.2 hno
      · rename_i hw
        simp only [hw] at h1
        exact ⟨fun f _ => hF.fn f, any_in hF hnd hno fuel _ _ _ h1⟩
/-- Whatever order is picked from here on; behind the operations of which D speaks S holds. -/
def wpAnyD (P : Program) (md : Region.Mode) (ops : Array Oper) (Q : Exit → Act → World → Prop) (S : World → Prop) (D : Nat → Bool) : Nat → Array Bool → Act → World → Prop
  | 0, listed, a, w => Region.ready md ops listed = [] ∧ Q .normal a w
  | fuel + 1, listed, a, w => (Region.ready md ops listed = [] → Q .normal a w) ∧
    ∀ j ∈ Region.ready md ops listed, wpOp P ops Q j (fun a' w' => (D j = true → S w') ∧ wpAnyD P md ops Q S D fuel (listed.setIfInBounds j true) a' w') a w
theorem any_of_D {Q' : Exit → Act → World → Prop} (S : World → Prop) (D : Nat → Bool) : ∀ (fuel : Nat) (listed : Array Bool) (a : Act) (w : World), wpAnyD P md ops Q' S D fuel listed a w → wpAny P md ops Q' fuel listed a w
  | 0, _, _, _, h => h
  | fuel + 1, _, _, _, h => ⟨h.1, fun i hi => wpOp_mono (fun a' w' h' => any_of_D S D fuel _ a' w' h'.2) (h.2 i hi)⟩
theorem anyD_first {Q' : Exit → Act → World → Prop} {S : World → Prop} {D : Nat → Bool} {i : Nat} {oi : Oper} {v : Value} (hi : ops[i]? = some oi) (hsel : Region.noSelect ops = true)
    (hQ : ∀ c a w, Q' (.panic c) (a.put oi.dst v) w → Q' (.panic c) a w)
    (hT : ∀ j oj, ops[j]? = some oj → (∀ e ∈ oj.after, Region.binds md e = true → e.on ≠ i) → D j = true) (fuel : Nat) :
    ∀ (listed : Array Bool) (a : Act) (w : World),
      (∀ j oj, ops[j]? = some oj → j ≠ i → listed.getD j true = false → (∀ e ∈ oj.after, Region.binds md e = true → e.on ≠ i) → oi.apart ops oj = true) →
      i ∈ Region.ready md ops listed → YieldsIf P ops S oi v a → S w →
      wpAnyD P md ops Q' S D fuel (listed.setIfInBounds i true) (a.put oi.dst v) w → wpAnyD P md ops Q' S D (fuel + 1) listed a w := by
  induction fuel with
  | zero =>
    intro listed a w _ hr hy hS H
    refine ⟨fun h => absurd h (List.ne_nil_of_mem hr), fun j hj => ?_⟩
    by_cases hji : j = i
    · subst hji; exact hy.wpOp hi hS ⟨fun _ => hS, H⟩
    · exact absurd H.1 (List.ne_nil_of_mem (ready_mono hj hji))
  | succ fuel ih =>
    intro listed a w hfree hr hy hS H
    refine ⟨fun h => absurd h (List.ne_nil_of_mem hr), fun j hj => ?_⟩
    by_cases hji : j = i
    · subst hji; exact hy.wpOp hi hS ⟨fun _ => hS, H⟩
    · obtain ⟨hjun, oj, hoj, hall⟩ := mem_ready.1 hj
      have hnot : ∀ e ∈ oj.after, Region.binds md e = true → e.on ≠ i := fun e he hb heq => by
        have h1 := hall e he hb
        rw [heq, getD_both (mem_ready.1 hr).1] at h1
        cases h1
      have h2 := wpOp_putIf hoj (hfree j oj hoj hji hjun hnot) (fun cs b => Region.noSelect_spec hsel i oi cs b hi) (fun cs b => Region.noSelect_spec hsel j oj cs b hoj) hQ hy (H.2 j (ready_mono hj hji))
      refine wpOp_mono (fun a' w' h3 => ⟨h3.2.1, ih (listed.setIfInBounds j true) a' w' (fun k ok hk hki hun hno => hfree k ok hk hki ?_ hno) (ready_mono hr (Ne.symm hji)) h3.1 (h3.2.1 (hT j oj hoj hnot)) ?_⟩) h2
      · by_cases hjk : j = k
        · subst hjk; exact hjun
        · rw [getD_set_ne true hjk] at hun; exact hun
      · rw [Array.setIfInBounds_comm _ _ hji]
        exact h3.2.2
/-- The operations that do not wait for number i. -/
def demand (ops : Array Oper) (i : Nat) : Nat → Bool := fun j => match ops[j]? with
  | some oj => !(oj.after.any fun e => Region.binds .any e && e.on == i)
  | none => true
/-- The one operation that may come up. -/
theorem stepD {Q' : Exit → Act → World → Prop} {S : World → Prop} {D : Nat → Bool} (j : Nat) {oj : Oper} {fuel : Nat} {listed : Array Bool} {a : Act} {w : World} (hr : Region.ready md ops listed = [j]) (hj : ops[j]? = some oj) (hg : oj.guard = none)
    (h : ∀ K : Act → World → Prop, (∀ a' w', (D j = true → S w') → wpAnyD P md ops Q' S D fuel (listed.setIfInBounds j true) a' w' → K a' w') → oj.wp P a w K Q') : wpAnyD P md ops Q' S D (fuel + 1) listed a w := by
  refine ⟨fun h0 => (by rw [h0] at hr; cases hr), fun i hi => ?_⟩
  rw [hr] at hi
  obtain rfl : i = j := by simpa using hi
  unfold wpOp
  simp only [hj]
  rw [if_pos (by simp [Region.wanted, hg])]
  exact .inl (h _ fun a' w' h1 h2 => ⟨h1, h2⟩)
theorem doneD {Q' : Exit → Act → World → Prop} {S : World → Prop} {D : Nat → Bool} {listed : Array Bool} {a : Act} {w : World} (hr : Region.ready md ops listed = []) (h : Q' .normal a w) : ∀ fuel, wpAnyD P md ops Q' S D fuel listed a w
  | 0 => ⟨hr, h⟩
  | _ + 1 => ⟨fun _ => h, by rw [hr]; simp⟩
/-- The beginning, outside every fence and inside one. -/
theorem region_any {id : Nat} {Q' : Exit → Act → World → Prop} {a : Act} {w : World} (hm : P.follows .mixedOrders = true) (h : wpAny P .any ops Q' ops.size (Array.replicate ops.size false) a w.drew) : (Code.region id ops true).wp P Q' a w := wp_region_any hm h
theorem region_in (hF : Lets F) {id : Nat} {Q' : Exit → Act → World → Prop} {a : Act} {w : World} (hm : P.follows .mixedOrders = true) (hnd : noDefer ops = true) (hno : ¬ LetsOut Q')
    (h : wpAny P .any ops Q' ops.size (Array.replicate ops.size false) a w.drew) : (Code.region id ops true).wpIn F m P Q' a w :=
  wpIn_region_any hm (any_in hF hnd hno _ _ _ _ h)
end
end Go.Proofs.YtbcileppebpamaaGreatDoor
namespace Go.Proofs.YtbcileppebpamaaGreatDoor
open Go Go.RowKit
set_option maxRecDepth 100000
/-- Q behind the normal end, False behind any other one. -/
def OnlyNorm (Q : Exit → Act → World → Prop) : Exit → Act → World → Prop
  | .normal, a, w => Q .normal a w
  | _, _, _ => False
theorem OnlyNorm.imp {Q : Exit → Act → World → Prop} : ∀ (e : Exit) (a : Act) (w : World), OnlyNorm Q e a w → Q e a w := fun e a w h => by
  cases e <;> first | exact h | exact (h : False).elim
theorem OnlyNorm.normal {Q : Exit → Act → World → Prop} {a : Act} {w : World} (h : Q .normal a w) : OnlyNorm Q .normal a w := h
theorem OnlyNorm.out {Q : Exit → Act → World → Prop} : ¬ LetsOut (OnlyNorm Q) := fun ⟨_, _, h⟩ => h
section
variable {P : Program} {ops : Array Oper} {F : Fence} {m : Nat}
theorem regD_in (hF : Lets F) (S : World → Prop) (D : Nat → Bool) {id : Nat} {Q : Exit → Act → World → Prop} {a : Act} {w : World} (hm : P.follows .mixedOrders = true) (hnd : noDefer ops = true)
    (h : wpAnyD P .any ops (OnlyNorm Q) S D ops.size (Array.replicate ops.size false) a w.drew) : (Code.region id ops true).wpIn F m P Q a w :=
  wpIn_mono (region_in hF hm hnd OnlyNorm.out (any_of_D S D _ _ _ _ h)) OnlyNorm.imp
theorem regD (S : World → Prop) (D : Nat → Bool) {id : Nat} {Q : Exit → Act → World → Prop} {a : Act} {w : World} (hm : P.follows .mixedOrders = true)
    (h : wpAnyD P .any ops (OnlyNorm Q) S D ops.size (Array.replicate ops.size false) a w.drew) : (Code.region id ops true).wp P Q a w :=
  Code.wp_mono OnlyNorm.imp (region_any hm (any_of_D S D _ _ _ _ h))
/-- Each operation that does not wait for number i is named by D. -/
def dom (ops : Array Oper) (D : Nat → Bool) (i : Nat) : Bool := (List.range ops.size).all fun j => D j || !demand ops i j
theorem takeE {Q' : Exit → Act → World → Prop} {S : World → Prop} {D : Nat → Bool} {i : Nat} {oi : Oper} (v : Value) {fuel : Nat} {listed : Array Bool} {a : Act} {w : World} {d : Option Tmp} (hi : ops[i]? = some oi)
    (hs : Region.noSelect ops = true) (hD : dom ops D i = true) (hf : Region.free .any ops listed i = true) (hr : (Region.ready .any ops listed).contains i = true)
    (hQ : ∀ c a w, Q' (.panic c) (a.put oi.dst v) w → Q' (.panic c) a w) (hg : oi.guard = none) (hy : ∀ W, S W → (execOp a.eval oi).run P W = .ok (.value v) W) (hS : S w) (hd : oi.dst = d)
    (h : wpAnyD P .any ops Q' S D fuel (listed.setIfInBounds i true) (a.put d v) w) : wpAnyD P .any ops Q' S D (fuel + 1) listed a w := by
  subst hd
  refine anyD_first hi hs hQ (fun j oj hj hno => ?_) fuel listed a w (Region.free_spec hi hf) (by simpa using hr) (.inl ⟨by simp [Region.wanted, hg], hy⟩) hS h
  unfold dom at hD
  have hlt : j < ops.size := (Array.getElem?_eq_some_iff.1 hj).1
  have h1 := List.all_eq_true.1 hD j (List.mem_range.2 hlt)
  rw [Bool.or_eq_true] at h1
  refine h1.resolve_right fun h2 => ?_
  unfold demand at h2
  rw [hj] at h2
  simp only [Bool.not_not] at h2
  obtain ⟨e, he1, he2⟩ := Array.any_eq_true'.1 h2
  rw [Bool.and_eq_true, beq_iff_eq] at he2
  exact hno e he1 he2.1 he2.2
theorem dom_spec {D : Nat → Bool} {i : Nat} (hD : dom ops D i = true) : ∀ j oj, ops[j]? = some oj → (∀ e ∈ oj.after, Region.binds .any e = true → e.on ≠ i) → D j = true := fun j oj hj hno => by
  unfold dom at hD
  have hlt : j < ops.size := (Array.getElem?_eq_some_iff.1 hj).1
  have h1 := List.all_eq_true.1 hD j (List.mem_range.2 hlt)
  rw [Bool.or_eq_true] at h1
  refine h1.resolve_right fun h2 => ?_
  unfold demand at h2
  rw [hj] at h2
  simp only [Bool.not_not] at h2
  obtain ⟨e, he1, he2⟩ := Array.any_eq_true'.1 h2
  rw [Bool.and_eq_true, beq_iff_eq] at he2
  exact hno e he1 he2.1 he2.2
/-- .. a guarded operation that is wanted, and one that is not. -/
theorem takeY {Q' : Exit → Act → World → Prop} {S : World → Prop} {D : Nat → Bool} {i : Nat} {oi : Oper} (v : Value) {fuel : Nat} {listed : Array Bool} {a : Act} {w : World} {d : Option Tmp} (hi : ops[i]? = some oi)
    (hs : Region.noSelect ops = true) (hD : dom ops D i = true) (hf : Region.free .any ops listed i = true) (hr : (Region.ready .any ops listed).contains i = true)
    (hQ : ∀ c a w, Q' (.panic c) (a.put oi.dst v) w → Q' (.panic c) a w) (hg : Region.wanted oi (yielded ops a.tmps) = true) (hy : ∀ W, S W → (execOp a.eval oi).run P W = .ok (.value v) W) (hS : S w) (hd : oi.dst = d)
    (h : wpAnyD P .any ops Q' S D fuel (listed.setIfInBounds i true) (a.put d v) w) : wpAnyD P .any ops Q' S D (fuel + 1) listed a w := by
  subst hd
  exact anyD_first hi hs hQ (dom_spec hD) fuel listed a w (Region.free_spec hi hf) (by simpa using hr) (.inl ⟨hg, hy⟩) hS h
theorem stepY {md : Region.Mode} {Q' : Exit → Act → World → Prop} {S : World → Prop} {D : Nat → Bool} (j : Nat) {oj : Oper} {fuel : Nat} {listed : Array Bool} {a : Act} {w : World} (hr : Region.ready md ops listed = [j]) (hj : ops[j]? = some oj) (hg : Region.wanted oj (yielded ops a.tmps) = true)
    (h : ∀ K : Act → World → Prop, (∀ a' w', (D j = true → S w') → wpAnyD P md ops Q' S D fuel (listed.setIfInBounds j true) a' w' → K a' w') → oj.wp P a w K Q') : wpAnyD P md ops Q' S D (fuel + 1) listed a w := by
  refine ⟨fun h0 => (by rw [h0] at hr; cases hr), fun i hi => ?_⟩
  rw [hr] at hi
  obtain rfl : i = j := by simpa using hi
  unfold wpOp
  simp only [hj]
  rw [if_pos hg]
  exact .inl (h _ fun a' w' h1 h2 => ⟨h1, h2⟩)
/-- Two operations may come up. -/
theorem stepD2 {md : Region.Mode} {Q' : Exit → Act → World → Prop} {S : World → Prop} {D : Nat → Bool} (i j : Nat) {oi oj : Oper} {fuel : Nat} {listed : Array Bool} {a : Act} {w : World} (hr : Region.ready md ops listed = [i, j]) (hi : ops[i]? = some oi) (hgi : oi.guard = none) (hj : ops[j]? = some oj) (hgj : oj.guard = none)
    (h1 : ∀ K : Act → World → Prop, (∀ a' w', (D i = true → S w') → wpAnyD P md ops Q' S D fuel (listed.setIfInBounds i true) a' w' → K a' w') → oi.wp P a w K Q')
    (h2 : ∀ K : Act → World → Prop, (∀ a' w', (D j = true → S w') → wpAnyD P md ops Q' S D fuel (listed.setIfInBounds j true) a' w' → K a' w') → oj.wp P a w K Q') : wpAnyD P md ops Q' S D (fuel + 1) listed a w := by
  refine ⟨fun h0 => (by rw [h0] at hr; cases hr), fun k hk => ?_⟩
  rw [hr] at hk
  have hk' : k = i ∨ k = j := by simpa using hk
  rcases hk' with rfl | rfl
  · unfold wpOp
    simp only [hi]
    rw [if_pos (by simp [Region.wanted, hgi])]
    exact .inl (h1 _ fun a' w' h1 h2 => ⟨h1, h2⟩)
  · unfold wpOp
    simp only [hj]
    rw [if_pos (by simp [Region.wanted, hgj])]
    exact .inl (h2 _ fun a' w' h1 h2 => ⟨h1, h2⟩)
/-- An operation of a list that yields a value, inside a fence. -/
theorem wpListIn_value (hF : Lets F) {rest : List Oper} {o : Oper} {Q : Exit → Act → World → Prop} {a : Act} {w : World} (hgd : o.guard = none) (hd : ∀ c, o.op ≠ .defer c) (v : Value) (hrun : (execOp a.eval o).run P w = .ok (.value v) w)
    (hK : wpListIn F m P ops Q rest (a.put o.dst v) w) : wpListIn F m P ops Q (o :: rest) a w :=
  wpListIn_plain hgd fun K hK' => oper_in hF hd (fun _ _ h => h) (Q' := Q) (K := K) (by unfold Oper.wp; rw [hrun]; exact hK' _ _ hK)
end
end Go.Proofs.YtbcileppebpamaaGreatDoor
