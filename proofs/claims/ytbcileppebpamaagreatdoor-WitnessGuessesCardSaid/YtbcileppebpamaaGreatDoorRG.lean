/- A range over an iterator that may lay memory between two rounds, and whose body may leave: the law for the caller, outside a round and within one. -/
import Derived.RangeFuncNested
import Derived.RangeFuncLeaves
import Derived.RangeFuncBound
set_option linter.unusedSimpArgs false
set_option linter.unusedVariables false
namespace Go.Proofs.YtbcileppebpamaaGreatDoor
open Go Go.RowKit
set_option maxRecDepth 100000

/-- A loop's record, or a block for deferred calls. -/
def isBook : Obj → Bool
  | .loop _ | .deferred _ => true
  | _ => false
/-- Those lie as they lay. -/
structure KeepsL (W W' : World) : Prop where
  size : W.heap.size ≤ W'.heap.size
  same : ∀ (k : Nat) (o : Obj), W.heap[k]? = some o → isBook o = true → W'.heap[k]? = some o
theorem KeepsL.refl (W : World) : KeepsL W W := ⟨Nat.le_refl _, fun _ _ h _ => h⟩
theorem KeepsL.trans {A B C : World} (h : KeepsL A B) (k : KeepsL B C) : KeepsL A C := ⟨Nat.le_trans h.size k.size, fun b o ho hb => k.same b o (h.same b o ho hb) hb⟩
theorem KeepsL.below {W W' : World} (h : Below W.heap.size W W') : KeepsL W W' := ⟨h.size, fun k o ho _ => (h.block k (Array.getElem?_eq_some_iff.1 ho).1).trans ho⟩
theorem KeepsL.setCell {A W : World} (h : KeepsL A W) {b i : Nat} (v : Value) {cs : Array Value} {t : TypeId} {fr : Nat × Nat} (hb : W.heap[b]? = some (.cells cs t fr)) : KeepsL A (W.setCell ⟨b, i, none⟩ v) :=
  h.trans ⟨by simp, fun k o ho hk => by
    by_cases e : k = b
    · subst e; rw [hb] at ho; cases ho; cases hk
    · exact (heap_setCell_other W ⟨b, i, none⟩ k v e).trans ho⟩
theorem KeepsL.put {A W : World} (h : KeepsL A W) {b : Nat} (o' : Obj) {o0 : Obj} (hb : W.heap[b]? = some o0) (h0 : isBook o0 = false) : KeepsL A (W.putObj b o') :=
  h.trans ⟨by simp [World.putObj], fun k o ho hk => by
    by_cases e : k = b
    · subst e; rw [hb] at ho; cases ho; rw [h0] at hk; cases hk
    · exact (World.putObj_heap_other e).trans ho⟩
theorem KeepsL.to {A W W' : World} (h : KeepsL A W) (hb : Below W.heap.size W W') : KeepsL A W' := h.trans (.below hb)
/-- The blocks of which S speaks, if they are no such blocks, lie as they lay; so do the blocks for deferred calls. -/
structure KeptS (S : Nat → Prop) (W W' : World) : Prop where
  size : W.heap.size ≤ W'.heap.size
  app : ∀ (b : Nat), S b → ∀ (o : Obj), W.heap[b]? = some o → isBook o = false → W'.heap[b]? = some o
  dfr : ∀ (b : Nat) x, W.heap[b]? = some (.deferred x) → W'.heap[b]? = some (.deferred x)
instance (S : Nat → Prop) (W W' : World) : CoeFun (KeptS S W W') (fun _ => ∀ (b : Nat), S b → ∀ (o : Obj), W.heap[b]? = some o → isBook o = false → W'.heap[b]? = some o) := ⟨KeptS.app⟩
theorem KeptS.refl (S : Nat → Prop) (W : World) : KeptS S W W := ⟨Nat.le_refl _, fun _ _ _ h _ => h, fun _ _ h => h⟩
theorem KeptS.trans {S : Nat → Prop} {A B C : World} (h : KeptS S A B) (k : KeptS S B C) : KeptS S A C := ⟨Nat.le_trans h.size k.size, fun b hb o ho hk => k.app b hb o (h.app b hb o ho hk) hk, fun b x hx => k.dfr b x (h.dfr b x hx)⟩
theorem KeptS.below {S : Nat → Prop} {W W' : World} (h : Below W.heap.size W W') : KeptS S W W' := ⟨h.size, fun k _ _ ho _ => (h.block k (Array.getElem?_eq_some_iff.1 ho).1).trans ho, fun k _ ho => (h.block k (Array.getElem?_eq_some_iff.1 ho).1).trans ho⟩
theorem KeptS.to {S : Nat → Prop} {A W W' : World} (h : KeptS S A W) (hb : Below W.heap.size W W') : KeptS S A W' := h.trans (.below hb)
theorem setCell_deferred {W : World} {p : Addr} {v : Value} {b : Nat} {x} (h : W.heap[b]? = some (.deferred x)) : (W.setCell p v).heap[b]? = some (.deferred x) := by
  unfold World.setCell
  simp only [Array.getElem?_modify, h]
  split <;> rfl
theorem KeptS.setCell {S : Nat → Prop} {A W : World} (h : KeptS S A W) {b i : Nat} (v : Value) (hb : ¬ S b) : KeptS S A (W.setCell ⟨b, i, none⟩ v) :=
  h.trans ⟨by simp, fun k hk _ ho _ => (heap_setCell_other W ⟨b, i, none⟩ k v fun e => hb (by have e' : k = b := e; rw [← e']; exact hk)).trans ho, fun _ _ hx => setCell_deferred hx⟩
theorem KeptS.put {S : Nat → Prop} {A W : World} (h : KeptS S A W) {b : Nat} (o' : Obj) {o0 : Obj} (h0 : W.heap[b]? = some o0) (hk0 : isBook o0 = false) (hb : ¬ S b) : KeptS S A (W.putObj b o') :=
  h.trans ⟨by simp [World.putObj], fun _ hk _ ho _ => (World.putObj_heap_other fun e => hb (by rw [← e]; exact hk)).trans ho, fun k x hx => (World.putObj_heap_other fun e => by subst e; rw [h0] at hx; cases hx; cases hk0).trans hx⟩
theorem KeptS.turn (S : Nat → Prop) {W : World} {l : Nat} {r : Loop} (o' : Obj) (hl : W.heap[l]? = some (.loop r)) : KeptS S W (W.putObj l o') :=
  ⟨by simp [World.putObj], fun k _ _ ho hk => (World.putObj_heap_other fun e => by subst e; rw [hl] at ho; cases ho; cases hk).trans ho, fun k x hx => (World.putObj_heap_other fun e => by subst e; rw [hl] at hx; cases hx).trans hx⟩
/-- What is laid, and what is turned of loops' records and of blocks for deferred calls from block B on, leaves p. -/
structure Abd (B : Nat) (p : World → Prop) : Prop where
  below : ∀ W W', p W → Below W.heap.size W W' → p W'
  turn : ∀ (W : World) (l : Nat) (r r' : Loop), B ≤ l → p W → W.heap[l]? = some (.loop r) → p (W.putObj l (.loop r'))
  mark : ∀ (W : World) (D : Nat), B ≤ D → p W → W.heap[D]? = some (.deferred (some [])) → p (W.putObj D (.deferred none))
theorem Abd.and {B : Nat} {p q : World → Prop} (h : Abd B p) (k : Abd B q) : Abd B fun W => p W ∧ q W :=
  ⟨fun W W' hp hb => ⟨h.below W W' hp.1 hb, k.below W W' hp.2 hb⟩, fun W l r r' hl hp hr => ⟨h.turn W l r r' hl hp.1 hr, k.turn W l r r' hl hp.2 hr⟩, fun W D hl hp hr => ⟨h.mark W D hl hp.1 hr, k.mark W D hl hp.2 hr⟩⟩
theorem Abd.ex {B : Nat} {ι : Type} {p : ι → World → Prop} (h : ∀ i, Abd B (p i)) : Abd B fun W => ∃ i, p i W :=
  ⟨fun W W' ⟨i, hp⟩ hb => ⟨i, (h i).below W W' hp hb⟩, fun W l r r' hl ⟨i, hp⟩ hr => ⟨i, (h i).turn W l r r' hl hp hr⟩, fun W D hl ⟨i, hp⟩ hr => ⟨i, (h i).mark W D hl hp hr⟩⟩
theorem Abd.pure (B : Nat) (c : Prop) : Abd B fun _ => c := ⟨fun _ _ h _ => h, fun _ _ _ _ _ h _ => h, fun _ _ _ h _ => h⟩
theorem Abd.block (B k : Nat) (o : Obj) (ho : isBook o = false) : Abd B fun W => W.heap[k]? = some o :=
  ⟨fun _ _ h hb => (hb.block k (Array.getElem?_eq_some_iff.1 h).1).trans h,
   fun _ _ _ _ _ h hr => (World.putObj_heap_other fun e => by subst e; rw [h] at hr; cases hr; cases ho).trans h,
   fun _ _ _ h hr => (World.putObj_heap_other fun e => by subst e; rw [h] at hr; cases hr; cases ho).trans h⟩
theorem Abd.lt (B k : Nat) : Abd B fun W => k < W.heap.size := ⟨fun _ _ h hb => Nat.lt_of_lt_of_le h hb.size, fun _ _ _ _ _ h _ => by simpa [World.putObj] using h, fun _ _ _ h _ => by simpa [World.putObj] using h⟩
theorem Abd.le (B k : Nat) : Abd B fun W => k ≤ W.heap.size := ⟨fun _ _ h hb => Nat.le_trans h hb.size, fun _ _ _ _ _ h _ => by simpa [World.putObj] using h, fun _ _ _ h _ => by simpa [World.putObj] using h⟩
theorem Abd.belowOf {B n : Nat} {w : World} (hn : n ≤ w.heap.size) (hB : n ≤ B) : Abd B fun W => Below n w W :=
  ⟨fun _ _ h hb => h.trans (hb.mono (Nat.le_trans hn h.size)), fun W l r r' hl h hr => h.trans ⟨rfl, rfl, rfl, by simp [World.putObj], fun k hk => World.putObj_heap_other (by omega)⟩, fun W D hl h hr => h.trans ⟨rfl, rfl, rfl, by simp [World.putObj], fun k hk => World.putObj_heap_other (by omega)⟩⟩
theorem Abd.keepsL {B : Nat} {w : World} (hB : w.heap.size ≤ B) : Abd B fun W => KeepsL w W :=
  ⟨fun _ _ h hb => h.to hb, fun W l r r' hl h hr => ⟨Nat.le_trans h.size (by simp [World.putObj]), fun k o ho hk => (World.putObj_heap_other (by have := (Array.getElem?_eq_some_iff.1 ho).1; omega)).trans (h.same k o ho hk)⟩,
    fun W D hl h hr => ⟨Nat.le_trans h.size (by simp [World.putObj]), fun k o ho hk => (World.putObj_heap_other (by have := (Array.getElem?_eq_some_iff.1 ho).1; omega)).trans (h.same k o ho hk)⟩⟩
theorem Abd.keptS {B : Nat} {w : World} (S : Nat → Prop) (hB : w.heap.size ≤ B) : Abd B fun W => KeptS S w W :=
  ⟨fun _ _ h hb => h.to hb, fun W l r r' _ h hr => h.trans (KeptS.turn S _ hr), fun W D hD h hr => ⟨Nat.le_trans h.size (by simp [World.putObj]), fun b hb o ho hk => (World.putObj_heap_other (by have := (Array.getElem?_eq_some_iff.1 ho).1; omega)).trans (h.app b hb o ho hk), fun b x hx => (World.putObj_heap_other (by have := (Array.getElem?_eq_some_iff.1 hx).1; omega)).trans (h.dfr b x hx)⟩⟩
theorem Abd.mono {B B' : Nat} {p : World → Prop} (h : Abd B p) (hB : B ≤ B') : Abd B' p := ⟨h.below, fun W l r r' hl => h.turn W l r r' (Nat.le_trans hB hl), fun W D hl => h.mark W D (Nat.le_trans hB hl)⟩
/-- A loop's record below B lies as it lies. -/
theorem Abd.loopAt (B k : Nat) (hk : k < B) (x : Loop) : Abd B fun W => W.heap[k]? = some (.loop x) :=
  ⟨fun _ _ h hb => (hb.block k (Array.getElem?_eq_some_iff.1 h).1).trans h, fun W l r r' hl h hr => (World.putObj_heap_other (by omega)).trans h, fun W D hD h _ => (World.putObj_heap_other (by omega)).trans h⟩
/-- A block for deferred calls below B lies as it lies. -/
theorem Abd.dfr (B k : Nat) (hk : k < B) (x) : Abd B fun W => W.heap[k]? = some (.deferred x) :=
  ⟨fun _ _ h hb => (hb.block k (Array.getElem?_eq_some_iff.1 h).1).trans h, fun W l r r' _ h hr => (World.putObj_heap_other fun e => by subst e; rw [h] at hr; cases hr).trans h, fun W D hD h _ => (World.putObj_heap_other (by omega)).trans h⟩

section
variable {F : Fence} {n : Nat} {P : Program} {α : Type}
/-- How an iterator comes to its end: all has come, or a round said no more. -/
def SeqEnd (End : List α → Prop) (J Jx : List α → World → Prop) (W : World) : Prop := (∃ xs, End xs ∧ J xs W) ∨ ∃ pre, Jx pre W
theorem SeqEnd.all {End : List α → Prop} {J Jx : List α → World → Prop} {W : World} (xs : List α) (he : End xs) (h : J xs W) : SeqEnd End J Jx W := .inl ⟨xs, he, h⟩
theorem SeqEnd.stop {End : List α → Prop} {J Jx : List α → World → Prop} {W : World} (pre : List α) (h : Jx pre W) : SeqEnd End J Jx W := .inr ⟨pre, h⟩
/-- What is asked of the iterator: what it hands to the body; S x: the blocks that it reads again behind that round. -/
def SeqG (F : Fence) (n : Nat) (P : Program) (g : Nat) (lb : Array Value) (encs : α → Array Value) (S : α → Nat → Prop) (Ok : List α → α → World → Prop) (End : List α → Prop) (w : World) : Prop :=
  ∀ (l : Nat) (J Jx : List α → World → Prop) (W : World), Below w.heap.size w W → (∀ pre W1 W2, J pre W1 → Below W1.heap.size W1 W2 → J pre W2) → (∀ pre, Abd W.heap.size (J pre) ∧ Abd W.heap.size (Jx pre)) →
    (∀ pre x W1, J pre W1 → Ok pre x W1 → YieldAt F (n - 1) P l (encs x) W1 fun e W' => (e = .returned (.bool true) ∧ J (pre ++ [x]) W' ∧ KeptS (S x) W1 W' ∧ KeepsL W1 W') ∨ (e = .returned (.bool false) ∧ Jx (pre ++ [x]) W' ∧ KeptS (fun _ => False) W1 W' ∧ ∀ k r, W.heap.size ≤ k → W1.heap[k]? = some (.loop r) → W'.heap[k]? = some (.loop r))) →
    J [] W → CallsIn F n P g (#[.func (.yield l) #[] #[]] ++ lb) W fun e W' => (∃ v, e = .returned v) ∧ SeqEnd End J Jx W'
theorem SeqG.inRound {g : Nat} {lb : Array Value} {encs : α → Array Value} {S : α → Nat → Prop} {Ok : List α → α → World → Prop} {End : List α → Prop} {w : World} (l : Nat) (h : SeqG Fence.wide n P g lb encs S Ok End w) : SeqG (Fence.wide.inRound l) n P g lb encs S Ok End w := h
/-- What a body keeps that leaves: the blocks for deferred calls, and the loops' records from its own on. -/
structure KeepsR (l : Nat) (W W' : World) : Prop where
  kept : KeptS (fun _ => False) W W'
  loops : ∀ (k : Nat) (r : Loop), l ≤ k → W.heap[k]? = some (.loop r) → W'.heap[k]? = some (.loop r)
theorem KeepsL.r {W W' : World} (h : KeepsL W W') (l : Nat) : KeepsR l W W' := ⟨⟨h.size, fun _ h => h.elim, fun b _ hx => h.same b _ hx rfl⟩, fun k _ _ hr => h.same k _ hr rfl⟩
/-- How the body of a round is left. -/
def rgPost (l : Nat) (S : Nat → Prop) (I : List α → World → Prop) (Ix : Code → List α → World → Prop) (xs : List α) (W : World) : Exit → Act → World → Prop
  | .normal, _, W' => KeepsL W W' ∧ KeptS S W W' ∧ I xs W'
  | .ret, _, W' => KeepsR l W W' ∧ Ix .ret xs W'
  | .exit id, _, W' => KeepsR l W W' ∧ Ix (.exit id) xs W'
  | _, _, _ => False

theorem rg_round {fn : FuncId} (hfn : F.fn fn) {tm : Array Value} {ps : Array Tmp} {assign body : Code} {D l B : Nat} (hB : B ≤ l) {encs : α → Array Value} (hps : ∀ x, (encs x).size = ps.size)
    {S : α → Nat → Prop} {Ok : List α → α → World → Prop} {I : List α → World → Prop} {Ix : Code → List α → World → Prop} (hI : ∀ pre, Abd B (I pre)) (hIx : ∀ c pre, Abd B (Ix c pre)) (hOk : ∀ pre x, Abd B (Ok pre x))
    {Ax : α → Act → World → Prop} (hAx : ∀ x a', Abd B (Ax x a'))
    (hassign : ∀ (l : Nat) (pre : List α) (x : α) (W : World) (K : Act → World → Prop), I pre W → Ok pre x W → (∀ a' W', Below W.heap.size W W' → Ax x a' W' → K a' W') →
      assign.wpIn (F.inRound l) n P (Exit.then K (fun _ _ _ => False)) { tmps := (ps.zip (encs x)).foldl (fun t (p, v) => t.setIfInBounds p v) tm, defers := [] } W)
    (hbody : ∀ (l : Nat) (pre : List α) (x : α) (a' : Act) (W : World), B ≤ l → (∃ r, W.heap[l]? = some (.loop r)) → I pre W → Ok pre x W → Ax x a' W → body.wpIn (F.inRound l) n P (rgPost l (S x) I Ix (pre ++ [x]) W) a' W)
    (pre : List α) (x : α) (W : World) (hi : I pre W) (hok : Ok pre x W) {rec : LoopState → Option Code → Loop} (hrec : rec = fun st pe => { state := st, pending := pe, fn := fn, tmps := tm, params := ps, assign := assign, body := body, defers := D })
    (hl : W.heap[l]? = some (.loop (rec .ready none))) :
    YieldAt F n P l (encs x) W fun e W' =>
      (e = .returned (.bool true) ∧ (I (pre ++ [x]) W' ∧ W'.heap[l]? = some (.loop (rec .ready none)) ∧ ∀ (k : Nat) (o : Obj), k ≠ l → W.heap[k]? = some o → isBook o = true → W'.heap[k]? = some o) ∧ KeptS (S x) W W') ∨
      (e = .returned (.bool false) ∧ (∃ c, Ix c (pre ++ [x]) W' ∧ W'.heap[l]? = some (.loop (rec .done (some c)))) ∧ KeptS (fun _ => False) W W' ∧ ∀ k r, l < k → W.heap[k]? = some (.loop r) → W'.heap[k]? = some (.loop r)) := by
  have hy := run_yield (P := P) (args := encs x) hl (by rw [hrec]; exact hps x)
  rw [hrec] at hy
  refine ⟨fn, _, assign, body, hy, roundIn_of_wpIn hfn (hassign _ pre x W _ hi hok ?_)⟩
  clear hy
  intro a' Wa hba hax
  have hla := (hba.block l (Array.getElem?_eq_some_iff.1 hl).1).trans hl
  have hlt := (Array.getElem?_eq_some_iff.1 hla).1
  refine ⟨_, run_beginRound hla (by rw [hrec]), ?_⟩
  obtain ⟨W2, hW2⟩ : ∃ W2, Wa.putObj l (.loop { rec .ready none with state := .busy }) = W2 := ⟨_, rfl⟩
  have hl2 : W2.heap[l]? = some (.loop { rec .ready none with state := .busy }) := by rw [← hW2]; exact World.putObj_heap_same hlt
  have hk2 : ∀ (k : Nat) (o : Obj), k ≠ l → W.heap[k]? = some o → isBook o = true → W2.heap[k]? = some o := fun k o hk ho _ => by
    rw [← hW2]
    exact (World.putObj_heap_other hk).trans ((hba.block k (Array.getElem?_eq_some_iff.1 ho).1).trans ho)
  have hi2 : I pre W2 := by rw [← hW2]; exact (hI pre).turn Wa l _ _ hB ((hI pre).below _ _ hi hba) hla
  have ho2 : Ok pre x W2 := by rw [← hW2]; exact (hOk pre x).turn Wa l _ _ hB ((hOk pre x).below _ _ hok hba) hla
  have ha2 : Ax x a' W2 := by rw [← hW2]; exact (hAx x a').turn Wa l _ _ hB hax hla
  have hs2 : KeptS (S x) W W2 := by rw [← hW2]; exact (KeptS.below hba).trans (KeptS.turn _ _ hla)
  rw [hW2]
  refine wpIn_mono (hbody _ pre x a' W2 hB ⟨_, hl2⟩ hi2 ho2 ha2) ?_
  have fin : ∀ (jump : Option Code) (W3 : World), KeepsR l W2 W3 →
      (Instr.endRound l jump).run P W3 = .ok (.bool jump.isNone) (W3.putObj l (.loop (rec (if jump.isNone then .ready else .done) jump))) ∧
      W3.heap[l]? = some (.loop { rec .ready none with state := .busy }) ∧
      (W3.putObj l (.loop (rec (if jump.isNone then .ready else .done) jump))).heap[l]? = some (.loop (rec (if jump.isNone then .ready else .done) jump)) ∧
      KeptS (fun _ => False) W (W3.putObj l (.loop (rec (if jump.isNone then .ready else .done) jump))) ∧
      ∀ (k : Nat) (r : Loop), l < k → W.heap[k]? = some (.loop r) → (W3.putObj l (.loop (rec (if jump.isNone then .ready else .done) jump))).heap[k]? = some (.loop r) := fun jump W3 hk3 => by
    have hl3 := hk3.loops _ _ (Nat.le_refl _) hl2
    have := run_endRound (P := P) jump hl3
    rw [hrec] at this ⊢
    exact ⟨this, by rw [hrec] at hl3; exact hl3, World.putObj_heap_same (Array.getElem?_eq_some_iff.1 hl3).1,
      ⟨Nat.le_trans hs2.size (Nat.le_trans hk3.kept.size (by simp [World.putObj])), fun _ h => h.elim, fun b x hx => (World.putObj_heap_other fun e => by subst e; rw [hl] at hx; cases hx).trans (hk3.kept.dfr b x (hs2.dfr b x hx))⟩,
      fun k r hk ho => (World.putObj_heap_other (by omega)).trans (hk3.loops k r (Nat.le_of_lt hk) (hk2 k _ (by omega) ho rfl))⟩
  rintro e a3 W3 hp
  cases e with
  | normal =>
    obtain ⟨hk3, hs3, hi3⟩ := hp
    obtain ⟨hr, hl3, hl4, _, _⟩ := fin none W3 (hk3.r l)
    exact ⟨_, _, hr, .inl ⟨rfl, ⟨(hI _).turn W3 l _ _ hB hi3 hl3, hl4, fun k o hk ho hb => (World.putObj_heap_other hk).trans (hk3.same k o (hk2 k o hk ho hb) hb)⟩, hs2.trans (hs3.trans (KeptS.turn _ _ hl3))⟩⟩
  | ret =>
    obtain ⟨hk3, hi3⟩ := hp
    obtain ⟨hr, hl3, hl4, hk4, hk5⟩ := fin (some .ret) W3 hk3
    exact ⟨_, _, hr, .inr ⟨rfl, ⟨.ret, (hIx _ _).turn W3 l _ _ hB hi3 hl3, hl4⟩, hk4, hk5⟩⟩
  | exit id =>
    obtain ⟨hk3, hi3⟩ := hp
    obtain ⟨hr, hl3, hl4, hk4, hk5⟩ := fin (some (.exit id)) W3 hk3
    exact ⟨_, _, hr, .inr ⟨rfl, ⟨.exit id, (hIx _ _).turn W3 l _ _ hB hi3 hl3, hl4⟩, hk4, hk5⟩⟩
  | goto t => exact hp.elim
  | panic ch => exact hp.elim
  | outgrown => exact hp.elim

/-- The law outside a round. -/
theorem rg_out {g : Operand} {ps : Array Tmp} {assign body : Code} {Q : Exit → Act → World → Prop} {a : Act} {w : World}
    (hro : F.round = none) (h1 : 1 ≤ n) {gf : Nat} {lb : Array Value} (hg : a.eval g = .func (.func gf) #[] lb) (hFg : F.fn gf) (eg : ∀ args w, (callFunc gf args).run P w = .ok (.enter gf args) w)
    {encs : α → Array Value} {S : α → Nat → Prop} {Ok : List α → α → World → Prop} {End : List α → Prop} (hseq : SeqG F (n - 1) P gf lb encs S Ok End w) (hps : ∀ x, (encs x).size = ps.size)
    (I : List α → World → Prop) (Ix : Code → List α → World → Prop) (hI : ∀ pre, Abd w.heap.size (I pre)) (hIx : ∀ c pre, Abd w.heap.size (Ix c pre)) (hOk : ∀ pre x, Abd w.heap.size (Ok pre x)) (h0 : I [] w) (Ax : α → Act → World → Prop) (hAx : ∀ x a', Abd w.heap.size (Ax x a'))
    (hassign : ∀ (l : Nat) (pre : List α) (x : α) (W : World) (K : Act → World → Prop), I pre W → Ok pre x W → (∀ a' W', Below W.heap.size W W' → Ax x a' W' → K a' W') →
      assign.wpIn (F.inRound l) (n - 1 - 1) P (Exit.then K (fun _ _ _ => False)) { tmps := (ps.zip (encs x)).foldl (fun t (p, v) => t.setIfInBounds p v) a.tmps, defers := [] } W)
    (hbody : ∀ (l : Nat) (pre : List α) (x : α) (a' : Act) (W : World), w.heap.size ≤ l → (∃ r, W.heap[l]? = some (.loop r)) → I pre W → Ok pre x W → Ax x a' W → body.wpIn (F.inRound l) (n - 1 - 1) P (rgPost l (S x) I Ix (pre ++ [x]) W) a' W)
    (hdone : ∀ (D : Nat) (xs : List α) (W : World), w.heap.size ≤ D → End xs → I xs W → W.heap[D]? = some (.deferred (some [])) → Q .normal { a with defers := { target := .collected D, args := #[] } :: a.defers } W)
    (hstop : ∀ (D : Nat) (c : Code) (pre : List α) (W : World), w.heap.size ≤ D → Ix c pre W → W.heap[D]? = some (.deferred (some [])) → c.wpIn F n P Q { a with defers := { target := .collected D, args := #[] } :: a.defers } W) :
    (Code.rangeFunc g ps assign body).wpIn F n P Q a w := by
  refine wpIn_rangeFunc ?_
  intro fn hfn
  rw [hro]
  obtain ⟨rec, hrec⟩ : ∃ rec : LoopState → Option Code → Loop, rec = fun st pe => { state := st, pending := pe, fn := fn, tmps := a.tmps, params := ps, assign := assign, body := body, defers := w.heap.size } := ⟨_, rfl⟩
  obtain ⟨W1, hW1⟩ : ∃ W1, (w.alloc (.deferred (some []))).alloc (.loop (rec .ready none)) = W1 := ⟨_, rfl⟩
  have hL1 : W1.heap[w.heap.size + 1]? = some (.loop (rec .ready none)) := by
    rw [← hW1]; have := World.alloc_heap_new (w.alloc (.deferred (some []))) (.loop (rec .ready none)); rwa [World.size_alloc] at this
  have hK1 : W1.heap[w.heap.size]? = some (.deferred (some [])) := by
    rw [← hW1]; exact (Below.heap_alloc _ _ _ (by simp)).trans (World.alloc_heap_new w _)
  have hb1 : Below w.heap.size w W1 := by
    rw [← hW1]; exact ((Below.refl _ w).alloc (Nat.le_refl _) _).alloc (by simp) _
  have hI1 : I [] W1 := (hI []).below _ _ h0 hb1
  refine ⟨w.heap.size + 1, [{ target := .collected w.heap.size, args := #[] }], W1, { target := .fn (.func gf) lb, args := #[.func (.yield (w.heap.size + 1)) #[] #[]] }, W1, gf,
    #[.func (.yield (w.heap.size + 1)) #[] #[]] ++ lb, W1, ?_, ?_, ?_, ?_, fun _ => h1, ?_⟩
  · rw [← hW1, hrec]; exact run_enterLoop_outer _ _ _ _ _
  · simp only [resolve, hg]
    simp [go_sem]
  · intro f' hf'; simp [Target.leads] at hf'; subst hf'; exact hFg
  · simp [invoke, go_sem, eg]
  · have keep : ∀ (W W' : World) (k : Nat) (o : Obj), W.heap[k]? = some o → Below W.heap.size W W' → W'.heap[k]? = some o := fun W W' k o h hb => (hb.block k (Array.getElem?_eq_some_iff.1 h).1).trans h
    refine (hseq (w.heap.size + 1)
      (fun pre W => I pre W ∧ W.heap[w.heap.size + 1]? = some (.loop (rec .ready none)) ∧ W.heap[w.heap.size]? = some (.deferred (some [])))
      (fun pre W => ∃ c, Ix c pre W ∧ W.heap[w.heap.size + 1]? = some (.loop (rec .done (some c))) ∧ W.heap[w.heap.size]? = some (.deferred (some [])))
      W1 hb1 (fun pre A C hs hb => ⟨(hI pre).below _ _ hs.1 hb, keep _ _ _ _ hs.2.1 hb, keep _ _ _ _ hs.2.2 hb⟩)
      (fun pre => ⟨((hI pre).mono hb1.size).and ((Abd.loopAt _ _ (Array.getElem?_eq_some_iff.1 hL1).1 _).and (Abd.dfr _ _ (Array.getElem?_eq_some_iff.1 hK1).1 _)),
        Abd.ex fun c => ((hIx c pre).mono hb1.size).and ((Abd.loopAt _ _ (Array.getElem?_eq_some_iff.1 hL1).1 _).and (Abd.dfr _ _ (Array.getElem?_eq_some_iff.1 hK1).1 _))⟩) ?_ ⟨hI1, hL1, hK1⟩).mono ?_
    · rintro pre x W ⟨hi, hl, hk⟩ hok
      refine YieldAt.mono (rg_round (n := n - 1 - 1) (P := P) (S := S) hfn (Nat.le_succ _) hps hI hIx hOk hAx hassign (fun l pre x a' W hl => hbody l pre x a' W (by omega)) pre x W hi hok hrec hl) ?_
      rintro e W' (⟨he, ⟨h2, h3, h4⟩, h5⟩ | ⟨he, ⟨c, h2, h3⟩, h5, h6⟩)
      · exact .inl ⟨he, ⟨h2, h3, h4 _ _ (by omega) hk rfl⟩, h5, ⟨h5.size, fun k o ho hb => (Classical.em (k = w.heap.size + 1)).elim (fun e => by subst e; rw [hl] at ho; cases ho; exact h3) fun hne => h4 k o hne ho hb⟩⟩
      · exact .inr ⟨he, ⟨c, h2, h3, h5.dfr _ _ hk⟩, h5, fun k r hk' ho => h6 k r (by have := (Array.getElem?_eq_some_iff.1 hL1).1; omega) ho⟩
    · rintro e W2 ⟨⟨v, rfl⟩, (⟨xs, hS, hi, hl, hk⟩ | ⟨pre, c, hi, hl, hk⟩)⟩
      · exact ⟨none, _, by have := run_endLoop (P := P) hl (by rw [hrec]; simp); rw [hrec] at this; exact this, hdone _ xs _ (Nat.le_refl _) hS ((hI xs).turn _ _ _ _ (by omega) hi hl) ((World.putObj_heap_other (by omega)).trans hk)⟩
      · exact ⟨some c, _, by have := run_endLoop (P := P) hl (by rw [hrec]; simp); rw [hrec] at this; exact this, hstop _ c pre _ (Nat.le_refl _) ((hIx c pre).turn _ _ _ _ (by omega) hi hl) ((World.putObj_heap_other (by omega)).trans hk)⟩
/-- The law within a round of loop l₀. -/
theorem rg_in {g : Operand} {ps : Array Tmp} {assign body : Code} {Q : Exit → Act → World → Prop} {a : Act} {w : World}
    {l₀ : Nat} {r₀ : Loop} (hro : F.round = some l₀) (hl₀ : w.heap[l₀]? = some (.loop r₀)) (h1 : 1 ≤ n) {gf : Nat} {lb : Array Value} (hg : a.eval g = .func (.func gf) #[] lb) (hFg : F.fn gf) (eg : ∀ args w, (callFunc gf args).run P w = .ok (.enter gf args) w)
    {encs : α → Array Value} {S : α → Nat → Prop} {Ok : List α → α → World → Prop} {End : List α → Prop} (hseq : SeqG F (n - 1) P gf lb encs S Ok End w) (hps : ∀ x, (encs x).size = ps.size)
    (I : List α → World → Prop) (Ix : Code → List α → World → Prop) (hI : ∀ pre, Abd w.heap.size (I pre)) (hIx : ∀ c pre, Abd w.heap.size (Ix c pre)) (hOk : ∀ pre x, Abd w.heap.size (Ok pre x)) (h0 : I [] w) (Ax : α → Act → World → Prop) (hAx : ∀ x a', Abd w.heap.size (Ax x a'))
    (hassign : ∀ (l : Nat) (pre : List α) (x : α) (W : World) (K : Act → World → Prop), I pre W → Ok pre x W → (∀ a' W', Below W.heap.size W W' → Ax x a' W' → K a' W') →
      assign.wpIn (F.inRound l) (n - 1 - 1) P (Exit.then K (fun _ _ _ => False)) { tmps := (ps.zip (encs x)).foldl (fun t (p, v) => t.setIfInBounds p v) a.tmps, defers := [] } W)
    (hbody : ∀ (l : Nat) (pre : List α) (x : α) (a' : Act) (W : World), w.heap.size ≤ l → (∃ r, W.heap[l]? = some (.loop r)) → I pre W → Ok pre x W → Ax x a' W → body.wpIn (F.inRound l) (n - 1 - 1) P (rgPost l (S x) I Ix (pre ++ [x]) W) a' W)
    (hdone : ∀ (xs : List α) (W : World), End xs → I xs W → Q .normal a W)
    (hstop : ∀ (c : Code) (pre : List α) (W : World), Ix c pre W → c.wpIn F n P Q a W) :
    (Code.rangeFunc g ps assign body).wpIn F n P Q a w := by
  refine wpIn_rangeFunc ?_
  intro fn hfn
  rw [hro]
  obtain ⟨rec, hrec⟩ : ∃ rec : LoopState → Option Code → Loop, rec = fun st pe => { state := st, pending := pe, fn := fn, tmps := a.tmps, params := ps, assign := assign, body := body, defers := r₀.defers } := ⟨_, rfl⟩
  obtain ⟨W1, hW1⟩ : ∃ W1, w.alloc (.loop (rec .ready none)) = W1 := ⟨_, rfl⟩
  have hL1 : W1.heap[w.heap.size]? = some (.loop (rec .ready none)) := by rw [← hW1]; exact World.alloc_heap_new w _
  have hb1 : Below w.heap.size w W1 := by rw [← hW1]; exact (Below.refl _ w).alloc (Nat.le_refl _) _
  have hI1 : I [] W1 := (hI []).below _ _ h0 hb1
  refine ⟨w.heap.size, [], W1, { target := .fn (.func gf) lb, args := #[.func (.yield w.heap.size) #[] #[]] }, W1, gf,
    #[.func (.yield w.heap.size) #[] #[]] ++ lb, W1, ?_, ?_, ?_, ?_, fun _ => h1, ?_⟩
  · rw [← hW1, hrec]; exact run_enterLoop_inner hl₀ _ _ _ _ _
  · simp only [resolve, hg]
    simp [go_sem]
  · intro f' hf'; simp [Target.leads] at hf'; subst hf'; exact hFg
  · simp [invoke, go_sem, eg]
  · have keep : ∀ (W W' : World) (k : Nat) (o : Obj), W.heap[k]? = some o → Below W.heap.size W W' → W'.heap[k]? = some o := fun W W' k o h hb => (hb.block k (Array.getElem?_eq_some_iff.1 h).1).trans h
    refine (hseq w.heap.size
      (fun pre W => I pre W ∧ W.heap[w.heap.size]? = some (.loop (rec .ready none)))
      (fun pre W => ∃ c, Ix c pre W ∧ W.heap[w.heap.size]? = some (.loop (rec .done (some c))))
      W1 hb1 (fun pre A C hs hb => ⟨(hI pre).below _ _ hs.1 hb, keep _ _ _ _ hs.2 hb⟩)
      (fun pre => ⟨((hI pre).mono hb1.size).and (Abd.loopAt _ _ (Array.getElem?_eq_some_iff.1 hL1).1 _),
        Abd.ex fun c => ((hIx c pre).mono hb1.size).and (Abd.loopAt _ _ (Array.getElem?_eq_some_iff.1 hL1).1 _)⟩) ?_ ⟨hI1, hL1⟩).mono ?_
    · rintro pre x W ⟨hi, hl⟩ hok
      refine YieldAt.mono (rg_round (n := n - 1 - 1) (P := P) (S := S) hfn (Nat.le_refl _) hps hI hIx hOk hAx hassign (fun l pre x a' W hl => hbody l pre x a' W (by omega)) pre x W hi hok hrec hl) ?_
      rintro e W' (⟨he, ⟨h2, h3, h4⟩, h5⟩ | ⟨he, ⟨c, h2, h3⟩, h5, h6⟩)
      · exact .inl ⟨he, ⟨h2, h3⟩, h5, ⟨h5.size, fun k o ho hb => (Classical.em (k = w.heap.size)).elim (fun e => by subst e; rw [hl] at ho; cases ho; exact h3) fun hne => h4 k o hne ho hb⟩⟩
      · exact .inr ⟨he, ⟨c, h2, h3⟩, h5, fun k r hk' ho => h6 k r (by have := (Array.getElem?_eq_some_iff.1 hL1).1; omega) ho⟩
    · rintro e W2 ⟨⟨v, rfl⟩, (⟨xs, hS, hi, hl⟩ | ⟨pre, c, hi, hl⟩)⟩
      · exact ⟨none, _, by have := run_endLoop (P := P) hl (by rw [hrec]; simp); rw [hrec] at this; exact this, hdone xs _ hS ((hI xs).turn _ _ _ _ (Nat.le_refl _) hi hl)⟩
      · exact ⟨some c, _, by have := run_endLoop (P := P) hl (by rw [hrec]; simp); rw [hrec] at this; exact this, hstop c pre _ ((hIx c pre).turn _ _ _ _ (Nat.le_refl _) hi hl)⟩
/-- The frame in a round is a function of what was handed out. -/
theorem rg_outA {g : Operand} {ps : Array Tmp} {assign body : Code} {Q : Exit → Act → World → Prop} {a : Act} {w : World}
    (hro : F.round = none) (h1 : 1 ≤ n) {gf : Nat} {lb : Array Value} (hg : a.eval g = .func (.func gf) #[] lb) (hFg : F.fn gf) (eg : ∀ args w, (callFunc gf args).run P w = .ok (.enter gf args) w)
    {encs : α → Array Value} {S : α → Nat → Prop} {Ok : List α → α → World → Prop} {End : List α → Prop} (hseq : SeqG F (n - 1) P gf lb encs S Ok End w) (hps : ∀ x, (encs x).size = ps.size)
    (I : List α → World → Prop) (Ix : Code → List α → World → Prop) (hI : ∀ pre, Abd w.heap.size (I pre)) (hIx : ∀ c pre, Abd w.heap.size (Ix c pre)) (hOk : ∀ pre x, Abd w.heap.size (Ok pre x)) (h0 : I [] w) {A : α → Act}
    (hassign : ∀ (l : Nat) (pre : List α) (x : α) (W : World) (K : Act → World → Prop), I pre W → Ok pre x W → (∀ a', a' = A x → K a' W) →
      assign.wpIn (F.inRound l) (n - 1 - 1) P (Exit.then K (fun _ _ _ => False)) { tmps := (ps.zip (encs x)).foldl (fun t (p, v) => t.setIfInBounds p v) a.tmps, defers := [] } W)
    (hbody : ∀ (l : Nat) (pre : List α) (x : α) (W : World), w.heap.size ≤ l → (∃ r, W.heap[l]? = some (.loop r)) → I pre W → Ok pre x W → body.wpIn (F.inRound l) (n - 1 - 1) P (rgPost l (S x) I Ix (pre ++ [x]) W) (A x) W)
    (hdone : ∀ (D : Nat) (xs : List α) (W : World), w.heap.size ≤ D → End xs → I xs W → W.heap[D]? = some (.deferred (some [])) → Q .normal { a with defers := { target := .collected D, args := #[] } :: a.defers } W)
    (hstop : ∀ (D : Nat) (c : Code) (pre : List α) (W : World), w.heap.size ≤ D → Ix c pre W → W.heap[D]? = some (.deferred (some [])) → c.wpIn F n P Q { a with defers := { target := .collected D, args := #[] } :: a.defers } W) :
    (Code.rangeFunc g ps assign body).wpIn F n P Q a w :=
  rg_out hro h1 hg hFg eg hseq hps I Ix hI hIx hOk h0 (fun x a' _ => a' = A x) (fun _ _ => Abd.pure _ _)
    (fun l pre x W K hi ho hK => hassign l pre x W K hi ho fun a' ha => hK a' W (Below.refl _ _) ha)
    (fun l pre x a' W hl hr hi ho ha => by subst ha; exact hbody l pre x W hl hr hi ho) hdone hstop
/-- The frame in a round is a function of what was handed out. -/
theorem rg_inA {g : Operand} {ps : Array Tmp} {assign body : Code} {Q : Exit → Act → World → Prop} {a : Act} {w : World}
    {l₀ : Nat} {r₀ : Loop} (hro : F.round = some l₀) (hl₀ : w.heap[l₀]? = some (.loop r₀)) (h1 : 1 ≤ n) {gf : Nat} {lb : Array Value} (hg : a.eval g = .func (.func gf) #[] lb) (hFg : F.fn gf) (eg : ∀ args w, (callFunc gf args).run P w = .ok (.enter gf args) w)
    {encs : α → Array Value} {S : α → Nat → Prop} {Ok : List α → α → World → Prop} {End : List α → Prop} (hseq : SeqG F (n - 1) P gf lb encs S Ok End w) (hps : ∀ x, (encs x).size = ps.size)
    (I : List α → World → Prop) (Ix : Code → List α → World → Prop) (hI : ∀ pre, Abd w.heap.size (I pre)) (hIx : ∀ c pre, Abd w.heap.size (Ix c pre)) (hOk : ∀ pre x, Abd w.heap.size (Ok pre x)) (h0 : I [] w) {A : α → Act}
    (hassign : ∀ (l : Nat) (pre : List α) (x : α) (W : World) (K : Act → World → Prop), I pre W → Ok pre x W → (∀ a', a' = A x → K a' W) →
      assign.wpIn (F.inRound l) (n - 1 - 1) P (Exit.then K (fun _ _ _ => False)) { tmps := (ps.zip (encs x)).foldl (fun t (p, v) => t.setIfInBounds p v) a.tmps, defers := [] } W)
    (hbody : ∀ (l : Nat) (pre : List α) (x : α) (W : World), w.heap.size ≤ l → (∃ r, W.heap[l]? = some (.loop r)) → I pre W → Ok pre x W → body.wpIn (F.inRound l) (n - 1 - 1) P (rgPost l (S x) I Ix (pre ++ [x]) W) (A x) W)
    (hdone : ∀ (xs : List α) (W : World), End xs → I xs W → Q .normal a W)
    (hstop : ∀ (c : Code) (pre : List α) (W : World), Ix c pre W → c.wpIn F n P Q a W) :
    (Code.rangeFunc g ps assign body).wpIn F n P Q a w :=
  rg_in hro hl₀ h1 hg hFg eg hseq hps I Ix hI hIx hOk h0 (fun x a' _ => a' = A x) (fun _ _ => Abd.pure _ _)
    (fun l pre x W K hi ho hK => hassign l pre x W K hi ho fun a' ha => hK a' W (Below.refl _ _) ha)
    (fun l pre x a' W hl hr hi ho ha => by subst ha; exact hbody l pre x W hl hr hi ho) hdone hstop
end
end Go.Proofs.YtbcileppebpamaaGreatDoor
