/- A region that draws its order: a head whose operations keep a class of worlds and yield one value in all of them, and behind it operations in one forced order; inside a fence that lets every function in, within a round too. -/
import Derived.Deep.Quiet
import Derived.StillTail
import Derived.OrdersIn
import Derived.OrdersHeld
import Derived.OwnWalkIn
import Derived.RangeFuncCalls
import Derived.Deep.RegionHeld3
set_option linter.unusedSimpArgs false
set_option linter.unusedVariables false
namespace Go.Proofs.YtbcileppebpamaaGreatDoor
open Go Go.RowKit
set_option maxRecDepth 100000

theorem rows_wide {n : Nat} {P : Program} {r : String} {args : Array Value} {w : World} {R : Value → World → Prop} (h : Rows P r args w R) : RowsIn Fence.wide n P r args w R := fun c cs _ => let ⟨v, w', hr, s⟩ := h c cs; ⟨v, w', hr, stepsIn_wide.2 s⟩
/-- A fence that lets every function in, at any depth. -/
structure Lets (F : Fence) : Prop where
  fn : ∀ f, F.fn f
  depth : F.depth = none
  calls : ∀ {n : Nat} {P : Program} {f : FuncId} {args : Array Value} {w : World} {R : Ending → World → Prop}, Calls P f args w R → CallsIn F n P f args w R
  rows : ∀ {n : Nat} {P : Program} {r : String} {args : Array Value} {w : World} {R : Value → World → Prop}, Rows P r args w R → RowsIn F n P r args w R
theorem lets_wide : Lets Fence.wide := ⟨fun _ => trivial, rfl, fun h => callsIn_wide.2 h, fun h => rows_wide h⟩
theorem lets_round (l : Nat) : Lets (Fence.wide.inRound l) := ⟨fun _ => trivial, rfl, fun h => CallsIn.inRound l (callsIn_wide.2 h), fun h => show RowsIn Fence.wide _ _ _ _ _ _ from rows_wide h⟩

section
variable {P : Program} {ops : Array Oper} {md : Region.Mode} {C : World → Prop} {F : Fence} {m : Nat}

def noDefer (ops : Array Oper) : Bool := ops.all fun o => match o.op with | .defer _ => false | _ => true
theorem noDefer_spec (h : noDefer ops = true) {j : Nat} {o : Oper} (ho : ops[j]? = some o) : ∀ c, o.op ≠ .defer c := by
  intro c e
  have := Array.all_eq_true_iff_forall_mem.1 h o (Array.mem_of_getElem? ho)
  simp [e] at this
theorem quiet_wpIn (hF : Lets F) {o : Oper} (hd : ∀ c, o.op ≠ .defer c) {a : Act} {K : Act → Prop} {K' : Act → World → Prop} {Q' : Exit → Act → World → Prop} {w : World} (hw : C w) (h : ∀ a w', C w' → K a → K' a w') (hh : o.quiet P a C K) : o.wpIn F m P a w K' Q' := by
  obtain ⟨v, h1, h2⟩ := hh
  have h3 := h1 w hw
  unfold Oper.quietAt at h3
  unfold Oper.wpIn
  refine ⟨fun f _ => hF.fn f, ?_⟩
  rw [Oper.semAt_plain F _ o hd]
  generalize (execOp a.eval o).run P w = r at *
  cases r with
  | ok x w' =>
    cases x <;> simp only [Oper.quietUpon] at h3 <;> simp only [Oper.uponIn]
    case value u =>
      obtain ⟨e1, e2⟩ := h3
      rw [e1, e2]
      exact h _ _ hw h2
    case skip =>
      obtain ⟨e1, e2⟩ := h3
      rw [e1, ← e2]
      exact h _ _ hw h2
    case enter f args =>
      obtain ⟨e1, hc⟩ := h3
      rw [e1]
      refine ⟨fun hd' => ?_, hF.calls (hc.mono fun e w'' ⟨he, hw''⟩ => by subst he; exact h _ _ hw'' h2)⟩
      rw [hF.depth] at hd'
      cases hd'
  | halt x w' => simp only [Oper.quietUpon] at h3
theorem qOp_wpIn (hF : Lets F) (hnd : noDefer ops = true) {i : Nat} {a : Act} {K : Act → Prop} {K' : Act → World → Prop} {Q' : Exit → Act → World → Prop} {w : World} (hC : C w) (h : ∀ a w', C w' → K a → K' a w') (hh : qOp P ops C i K a) : wpOpIn F m P ops Q' i K' a w := by
  unfold qOp at hh
  unfold wpOpIn
  split
  · rename_i ho; simp only [ho] at hh; exact h _ _ hC hh
  · rename_i o ho
    simp only [ho] at hh
    split
    · rename_i hw; simp only [hw, if_true] at hh; exact quiet_wpIn hF (noDefer_spec hnd ho) hC h hh
    · rename_i hw; simp only [hw] at hh; exact ⟨fun f _ => hF.fn f, h _ _ hC hh⟩
/-- The head, in whatever order. -/
def qHead (P : Program) (md : Region.Mode) (ops : Array Oper) (C : World → Prop) (n : Nat) (L : Array Bool → Act → Prop) : Nat → Array Bool → Act → Prop
  | 0, listed, a => L listed a
  | f + 1, listed, a => Region.ready md ops listed ≠ [] ∧ ∀ i ∈ Region.ready md ops listed, i < n ∧ qOp P ops C i (qHead P md ops C n L f (listed.setIfInBounds i true)) a
theorem qHead_sound (hF : Lets F) (hnd : noDefer ops = true) {n g : Nat} {L : Array Bool → Act → Prop} {Q' : Exit → Act → World → Prop} (hL : ∀ listed a w, C w → L listed a → wpAnyIn F m P md ops Q' g listed a w) :
    ∀ (f : Nat) (listed : Array Bool) (a : Act) (w : World), C w → qHead P md ops C n L f listed a → wpAnyIn F m P md ops Q' (f + g) listed a w := by
  intro f
  induction f with
  | zero => intro listed a w hw h; rw [Nat.zero_add]; exact hL _ _ _ hw h
  | succ f ih =>
    intro listed a w hw h
    rw [show f + 1 + g = (f + g) + 1 by omega]
    exact ⟨fun h0 => absurd h0 h.1, fun i hi => qOp_wpIn hF hnd hw (fun a' w' hw' h' => ih _ a' w' hw' h') (h.2 i hi).2⟩
theorem qHead_first {n i : Nat} {oi : Oper} {v : Value} {L : Array Bool → Act → Prop} (hi : ops[i]? = some oi) (hsel : Region.noSelect ops = true)
    (hs : Region.sinkB md ops n = true) (hc : Region.chainB md ops n = true) (hn : n < ops.size) (hin : i < n)
    (hdone : ∀ listed a, L listed a → ∀ j ∈ Region.ready md ops listed, n ≤ j) (f : Nat) :
    ∀ (listed : Array Bool) (a : Act), HeadInv md ops n listed →
      (∀ j oj, ops[j]? = some oj → j ≠ i → listed.getD j true = false → (∀ e ∈ oj.after, Region.binds md e = true → e.on ≠ i) → oi.apart ops oj = true) →
      i ∈ Region.ready md ops listed → YieldsIn P ops C oi v a →
      qHead P md ops C n L f (listed.setIfInBounds i true) (a.put oi.dst v) → qHead P md ops C n L (f + 1) listed a := by
  induction f with
  | zero =>
    intro listed a inv _ hr hy H
    have hun := (mem_ready.1 hr).1
    refine ⟨List.ne_nil_of_mem hr, fun j hj => ?_⟩
    have hjn : j < n := (Nat.lt_or_ge j n).elim id fun h => absurd hj (tail_waits hs hc hn inv _ i rfl hin hun j h)
    refine ⟨hjn, ?_⟩
    by_cases hji : j = i
    · subst hji; exact hy.qOp hi H
    · exact absurd (hdone _ _ H j (ready_mono hj hji)) (by omega)
  | succ f ih =>
    intro listed a inv hfree hr hy H
    have hun := (mem_ready.1 hr).1
    refine ⟨List.ne_nil_of_mem hr, fun j hj => ?_⟩
    have hjn : j < n := (Nat.lt_or_ge j n).elim id fun h => absurd hj (tail_waits hs hc hn inv _ i rfl hin hun j h)
    refine ⟨hjn, ?_⟩
    by_cases hji : j = i
    · subst hji; exact hy.qOp hi H
    · obtain ⟨hjun, oj, hoj, hall⟩ := mem_ready.1 hj
      have hnot : ∀ e ∈ oj.after, Region.binds md e = true → e.on ≠ i := fun e he hb heq => by
        have h1 := hall e he hb
        rw [heq, getD_both hun] at h1
        cases h1
      have h2 := qOp_put hoj (hfree j oj hoj hji hjun hnot) (fun cs b => Region.noSelect_spec hsel i oi cs b hi) (fun cs b => Region.noSelect_spec hsel j oj cs b hoj) hy (H.2 j (ready_mono hj hji)).2
      refine qOp_mono (fun a' h3 => ih (listed.setIfInBounds j true) a' (inv.set hj hjn) (fun k ok hk hki hun' hno => hfree k ok hk hki ?_ hno) (ready_mono hr (Ne.symm hji)) h3.1 ?_) h2
      · by_cases hjk : j = k
        · subst hjk; exact hjun
        · rw [getD_set_ne true hjk] at hun'; exact hun'
      · rw [Array.setIfInBounds_comm _ _ hji]
        exact h3.2
theorem qHead_lex {n g : Nat} {Lq : Act → Prop} (hsel : Region.noSelect ops = true) (hs : Region.sinkB md ops n = true) (hc : Region.chainB md ops n = true) (hn : n < ops.size) :
    ∀ (l : List Oper) (k : Nat) (listed : Array Bool) (a : Act), (∀ j, j < l.length → l[j]? = ops[k + j]?) → k + l.length = n → HeadInv md ops n listed →
    Region.lexHead md ops g l.length k listed = true → wpQuiet P ops C Lq l a →
    qHead P md ops C n (fun listed' a' => Region.seqB md ops g n listed' = true ∧ Lq a') l.length listed a
  | [], k, listed, a, _, hk, _, hB, h => by
    have : k = n := by simpa using hk
    subst this
    exact ⟨by simpa [Region.lexHead] using hB, h⟩
  | o :: l, k, listed, a, hl, hk, inv, hB, h => by
    have h0 : ops[k]? = some o := by simpa using (hl 0 (by simp)).symm
    simp only [List.length_cons, Region.lexHead, Bool.and_eq_true] at hB
    obtain ⟨⟨hr, hf⟩, hB'⟩ := hB
    have hkn : k < n := by simp only [List.length_cons] at hk; omega
    have hr' : k ∈ Region.ready md ops listed := by simpa using hr
    have hst : qOp P ops C k (wpQuiet P ops C Lq l) a := by unfold qOp; simp only [h0]; exact h
    obtain ⟨v, hy, hK⟩ := yieldsIn_of_qOp h0 hst
    refine qHead_first h0 hsel hs hc hn hkn (fun listed' a' hL => seqB_ready hL.1) l.length listed a inv (Region.free_spec h0 hf) hr' hy (qHead_lex hsel hs hc hn l (k + 1) _ _ (fun j hj => ?_) ?_ (inv.set hr' hkn) hB' hK)
    · have := hl (j + 1) (by simp; omega)
      simpa [Nat.add_assoc, Nat.add_comm 1 j] using this
    · simp only [List.length_cons] at hk; omega
theorem seq_wpIn {Q' : Exit → Act → World → Prop} : ∀ (l : List Oper) (k : Nat) (listed : Array Bool) (a : Act) (w : World), (∀ j, l[j]? = ops[k + j]?) →
    Region.seqB md ops l.length k listed = true → wpListIn F m P ops Q' l a w → wpAnyIn F m P md ops Q' l.length listed a w
  | [], _, _, _, _, _, hB, h => ⟨by simpa [Region.seqB] using hB, h⟩
  | o :: l, k, listed, a, w, hl, hB, h => by
    have h0 : ops[k]? = some o := by simpa using (hl 0).symm
    simp only [List.length_cons, Region.seqB, Bool.and_eq_true, decide_eq_true_eq] at hB
    refine ⟨fun h1 => (by rw [hB.1] at h1; cases h1), fun i hi => ?_⟩
    rw [hB.1] at hi
    have hik : i = k := by simpa using hi
    subst hik
    have hw : wpOpIn F m P ops Q' i (wpListIn F m P ops Q' l) a w := by unfold wpOpIn; simp only [h0]; exact h
    exact wpOpIn_mono (fun a' w' h' => seq_wpIn l (i + 1) _ a' w' (fun j => by have := hl (j + 1); simpa [Nat.add_assoc, Nat.add_comm 1 j] using this) hB.2 h') hw
/-- One walk of the head in the order of the text, then the tail, in every world of the class. -/
theorem wpIn_quiet_tail (hF : Lets F) {id : Nat} {Q : Exit → Act → World → Prop} {a : Act} {w : World} {l : List Oper} (n : Nat) (hm : P.follows .mixedOrders = true) (hB : Region.lexTailB .any l.toArray n = true) (hnd : noDefer l.toArray = true)
    (C : World → Prop) (hC : C w.drew)
    (h : wpQuiet P l.toArray C (fun a' => ∀ w', C w' → wpListIn F m P l.toArray Q (l.drop n) a' w') (l.take n) a) : (Code.region id l.toArray true).wpIn F m P Q a w := by
  simp only [Region.lexTailB, Bool.and_eq_true, decide_eq_true_eq] at hB
  obtain ⟨⟨⟨⟨hsel, hn⟩, hs⟩, hc⟩, hlex⟩ := hB
  have hn' : n < l.length := by simpa using hn
  have htl : (l.take n).length = n := by simp; omega
  have hdl : (l.drop n).length = l.toArray.size - n := by simp
  have inv0 : HeadInv .any l.toArray n (Array.replicate l.toArray.size false) :=
    ⟨by simp, fun j oj _ hl => (by rw [getD_replicate_false] at hl; cases hl), fun t _ ht => getD_in (by simpa using ht) (getD_replicate_false _ _)⟩
  have H := qHead_lex (md := .any) (g := l.toArray.size - n) hsel hs hc hn (l.take n) 0 _ a (fun j hj => by
    have hj' : j < n := by rw [htl] at hj; exact hj
    simp [hj']) (by simpa using htl) inv0 (by rw [htl]; exact hlex) h
  refine wpIn_region_any hm ?_
  have := qHead_sound (F := F) (m := m) (Q' := Q) (g := l.toArray.size - n) hF hnd (fun listed a' w' hw' hL => by
    have := seq_wpIn (F := F) (m := m) (md := .any) (Q' := Q) (l.drop n) n listed a' w' (fun j => by simp [List.getElem?_drop]) (by rw [hdl]; exact hL.1) (hL.2 w' hw')
    rwa [hdl] at this) _ _ _ _ hC H
  rw [htl, show n + (l.toArray.size - n) = l.toArray.size by omega] at this
  exact this
/-- What holds of a region outside every fence holds inside such a fence. -/
theorem oper_in (hF : Lets F) {o : Oper} (hd : ∀ c, o.op ≠ .defer c) {a : Act} {w : World} {K K' : Act → World → Prop} {Q' : Exit → Act → World → Prop} (hK : ∀ a w, K a w → K' a w) (h : o.wp P a w K Q') : o.wpIn F m P a w K' Q' := by
  unfold Oper.wp at h
  unfold Oper.wpIn
  refine ⟨fun f _ => hF.fn f, ?_⟩
  rw [Oper.semAt_plain F _ o hd]
  have hdep : F.depth.isSome = true → 1 ≤ m := fun h => by rw [hF.depth] at h; cases h
  generalize (execOp a.eval o).run P w = r at *
  cases r with
  | ok x w' =>
    cases x <;> simp only [Oper.upon] at h <;> simp only [Oper.uponIn]
    case value => exact hK _ _ h
    case skip => exact hK _ _ h
    case defer => exact hK _ _ h
    case enter => exact ⟨hdep, hF.calls (h.mono fun e w'' he => by cases e <;> first | exact hK _ _ he | exact he)⟩
    case row => exact ⟨hdep, hF.rows (h.mono fun v w'' he => hK _ _ he)⟩
  | halt x w' => cases x <;> simp only [Oper.upon] at h <;> simp only [Oper.uponIn] <;> exact h
theorem any_in (hF : Lets F) (hnd : noDefer ops = true) {Q' : Exit → Act → World → Prop} (hno : ¬ LetsOut Q') : ∀ (fuel : Nat) (listed : Array Bool) (a : Act) (w : World), wpAny P md ops Q' fuel listed a w → wpAnyIn F m P md ops Q' fuel listed a w
  | 0, _, _, _, h => h
  | fuel + 1, listed, a, w, h => by
    refine ⟨h.1, fun i hi => ?_⟩
    have h1 := h.2 i hi
    unfold wpOp at h1
    unfold wpOpIn
    split
    · rename_i ho; simp only [ho] at h1; exact any_in hF hnd hno fuel _ _ _ h1
    · rename_i o ho
      simp only [ho] at h1
      split
      · rename_i hw
        simp only [hw, if_true] at h1
        rcases h1 with h1 | h1
        · exact oper_in hF (noDefer_spec hnd ho) (fun a' w' h' => any_in hF hnd hno fuel _ _ _ h') h1
        · exact absurd h1.2 hno
      · rename_i hw
        simp only [hw] at h1
        exact ⟨fun f _ => hF.fn f, any_in hF hnd hno fuel _ _ _ h1⟩
/-- Whatever order is picked from here on; behind the operations of which D speaks S holds. -/
def wpAnyD (P : Program) (md : Region.Mode) (ops : Array Oper) (Q : Exit → Act → World → Prop) (S : World → Prop) (D : Nat → Bool) : Nat → Array Bool → Act → World → Prop
  | 0, listed, a, w => Region.ready md ops listed = [] ∧ Q .normal a w
  | fuel + 1, listed, a, w => (Region.ready md ops listed = [] → Q .normal a w) ∧
    ∀ j ∈ Region.ready md ops listed, wpOp P ops Q j (fun a' w' => (D j = true → S w') ∧ wpAnyD P md ops Q S D fuel (listed.setIfInBounds j true) a' w') a w
theorem any_of_D {Q' : Exit → Act → World → Prop} (S : World → Prop) (D : Nat → Bool) : ∀ (fuel : Nat) (listed : Array Bool) (a : Act) (w : World), wpAnyD P md ops Q' S D fuel listed a w → wpAny P md ops Q' fuel listed a w
  | 0, _, _, _, h => h
  | fuel + 1, _, _, _, h => ⟨h.1, fun i hi => wpOp_mono (fun a' w' h' => any_of_D S D fuel _ a' w' h'.2) (h.2 i hi)⟩
theorem anyD_first {Q' : Exit → Act → World → Prop} {S : World → Prop} {D : Nat → Bool} {i : Nat} {oi : Oper} {v : Value} (hi : ops[i]? = some oi) (hsel : Region.noSelect ops = true)
    (hQ : ∀ c a w, Q' (.panic c) (a.put oi.dst v) w → Q' (.panic c) a w)
    (hT : ∀ j oj, ops[j]? = some oj → (∀ e ∈ oj.after, Region.binds md e = true → e.on ≠ i) → D j = true) (fuel : Nat) :
    ∀ (listed : Array Bool) (a : Act) (w : World),
      (∀ j oj, ops[j]? = some oj → j ≠ i → listed.getD j true = false → (∀ e ∈ oj.after, Region.binds md e = true → e.on ≠ i) → oi.apart ops oj = true) →
      i ∈ Region.ready md ops listed → YieldsIf P ops S oi v a → S w →
      wpAnyD P md ops Q' S D fuel (listed.setIfInBounds i true) (a.put oi.dst v) w → wpAnyD P md ops Q' S D (fuel + 1) listed a w := by
  induction fuel with
  | zero =>
    intro listed a w _ hr hy hS H
    refine ⟨fun h => absurd h (List.ne_nil_of_mem hr), fun j hj => ?_⟩
    by_cases hji : j = i
    · subst hji; exact hy.wpOp hi hS ⟨fun _ => hS, H⟩
    · exact absurd H.1 (List.ne_nil_of_mem (ready_mono hj hji))
  | succ fuel ih =>
    intro listed a w hfree hr hy hS H
    refine ⟨fun h => absurd h (List.ne_nil_of_mem hr), fun j hj => ?_⟩
    by_cases hji : j = i
    · subst hji; exact hy.wpOp hi hS ⟨fun _ => hS, H⟩
    · obtain ⟨hjun, oj, hoj, hall⟩ := mem_ready.1 hj
      have hnot : ∀ e ∈ oj.after, Region.binds md e = true → e.on ≠ i := fun e he hb heq => by
        have h1 := hall e he hb
        rw [heq, getD_both (mem_ready.1 hr).1] at h1
        cases h1
      have h2 := wpOp_putIf hoj (hfree j oj hoj hji hjun hnot) (fun cs b => Region.noSelect_spec hsel i oi cs b hi) (fun cs b => Region.noSelect_spec hsel j oj cs b hoj) hQ hy (H.2 j (ready_mono hj hji))
      refine wpOp_mono (fun a' w' h3 => ⟨h3.2.1, ih (listed.setIfInBounds j true) a' w' (fun k ok hk hki hun hno => hfree k ok hk hki ?_ hno) (ready_mono hr (Ne.symm hji)) h3.1 (h3.2.1 (hT j oj hoj hnot)) ?_⟩) h2
      · by_cases hjk : j = k
        · subst hjk; exact hjun
        · rw [getD_set_ne true hjk] at hun; exact hun
      · rw [Array.setIfInBounds_comm _ _ hji]
        exact h3.2.2
/-- The operations that do not wait for number i. -/
def demand (ops : Array Oper) (i : Nat) : Nat → Bool := fun j => match ops[j]? with
  | some oj => !(oj.after.any fun e => Region.binds .any e && e.on == i)
  | none => true
/-- An operation that yields one value in all worlds is taken first. -/
theorem takeW {Q' : Exit → Act → World → Prop} {i : Nat} {oi : Oper} (v : Value) {fuel : Nat} {listed : Array Bool} {a : Act} {w : World} {d : Option Tmp} (hi : ops[i]? = some oi)
    (hs : Region.noSelect ops = true) (hf : Region.free md ops listed i = true) (hr : (Region.ready md ops listed).contains i = true)
    (hQ : ∀ c a w, Q' (.panic c) (a.put oi.dst v) w → Q' (.panic c) a w) (hg : oi.guard = none) (hy : ∀ W, (execOp a.eval oi).run P W = .ok (.value v) W) (hd : oi.dst = d)
    (h : wpAny P md ops Q' fuel (listed.setIfInBounds i true) (a.put d v) w) : wpAny P md ops Q' (fuel + 1) listed a w := by
  subst hd
  exact wpAny_take hi hs hf hr hQ (.inl ⟨by simp [Region.wanted, hg], fun W => hy W⟩) h
/-- The load of what the region stores later is taken first; from here on S holds behind all operations that do not wait for it. -/
theorem takeS {Q' : Exit → Act → World → Prop} (S : World → Prop) {i : Nat} {oi : Oper} (v : Value) {fuel : Nat} {listed : Array Bool} {a : Act} {w : World} {d : Option Tmp} (hi : ops[i]? = some oi)
    (hs : Region.noSelect ops = true) (hf : Region.free .any ops listed i = true) (hr : (Region.ready .any ops listed).contains i = true)
    (hQ : ∀ c a w, Q' (.panic c) (a.put oi.dst v) w → Q' (.panic c) a w) (hg : oi.guard = none) (hy : ∀ W, S W → (execOp a.eval oi).run P W = .ok (.value v) W) (hS : S w) (hd : oi.dst = d)
    (h : wpAnyD P .any ops Q' S (demand ops i) fuel (listed.setIfInBounds i true) (a.put d v) w) : wpAny P .any ops Q' (fuel + 1) listed a w := by
  subst hd
  refine any_of_D S (demand ops i) _ _ _ _ (anyD_first hi hs hQ (fun j oj hj hno => ?_) fuel listed a w (Region.free_spec hi hf) (by simpa using hr) (.inl ⟨by simp [Region.wanted, hg], fun W hW => hy W hW⟩) hS h)
  unfold demand
  rw [hj]
  simp only [Bool.not_eq_true']
  rw [Bool.eq_false_iff]
  intro he
  obtain ⟨e, he1, he2⟩ := Array.any_eq_true'.1 he
  rw [Bool.and_eq_true, beq_iff_eq] at he2
  exact hno e he1 he2.1 he2.2
theorem notD {D : Nat → Bool} {j : Nat} {p : Prop} (h : D j = false) : D j = true → p := fun h' => by rw [h] at h'; cases h'
/-- The one operation that may come up. -/
theorem stepD {Q' : Exit → Act → World → Prop} {S : World → Prop} {D : Nat → Bool} (j : Nat) {oj : Oper} {fuel : Nat} {listed : Array Bool} {a : Act} {w : World} (hr : Region.ready md ops listed = [j]) (hj : ops[j]? = some oj) (hg : oj.guard = none)
    (h : ∀ K : Act → World → Prop, (∀ a' w', (D j = true → S w') → wpAnyD P md ops Q' S D fuel (listed.setIfInBounds j true) a' w' → K a' w') → oj.wp P a w K Q') : wpAnyD P md ops Q' S D (fuel + 1) listed a w := by
  refine ⟨fun h0 => (by rw [h0] at hr; cases hr), fun i hi => ?_⟩
  rw [hr] at hi
  obtain rfl : i = j := by simpa using hi
  unfold wpOp
  simp only [hj]
  rw [if_pos (by simp [Region.wanted, hg])]
  exact .inl (h _ fun a' w' h1 h2 => ⟨h1, h2⟩)
theorem doneD {Q' : Exit → Act → World → Prop} {S : World → Prop} {D : Nat → Bool} {listed : Array Bool} {a : Act} {w : World} (hr : Region.ready md ops listed = []) (h : Q' .normal a w) : ∀ fuel, wpAnyD P md ops Q' S D fuel listed a w
  | 0 => ⟨hr, h⟩
  | _ + 1 => ⟨fun _ => h, by rw [hr]; simp⟩
/-- The beginning, outside every fence and inside one. -/
theorem region_any {id : Nat} {Q' : Exit → Act → World → Prop} {a : Act} {w : World} (hm : P.follows .mixedOrders = true) (h : wpAny P .any ops Q' ops.size (Array.replicate ops.size false) a w.drew) : (Code.region id ops true).wp P Q' a w := wp_region_any hm h
theorem region_in (hF : Lets F) {id : Nat} {Q' : Exit → Act → World → Prop} {a : Act} {w : World} (hm : P.follows .mixedOrders = true) (hnd : noDefer ops = true) (hno : ¬ LetsOut Q')
    (h : wpAny P .any ops Q' ops.size (Array.replicate ops.size false) a w.drew) : (Code.region id ops true).wpIn F m P Q' a w :=
  wpIn_region_any hm (any_in hF hnd hno _ _ _ _ h)
/-- One operation of the head. -/
theorem qstep {Q : Act → Prop} {a : Act} {o : Oper} {rest : List Oper} {v : Value} (hg : o.guard = none) (hv : ∀ w, C w → o.quietAt P a C w v) (h : wpQuiet P ops C Q rest (a.put o.dst v)) : wpQuiet P ops C Q (o :: rest) a := by
  have hw : Region.wanted o (yielded ops a.tmps) = true := by simp [Region.wanted, hg]
  unfold wpQuiet
  rw [if_pos hw]
  exact ⟨v, hv, h⟩
/-- .. that yields a value in the world that it got. -/
theorem qval {Q : Act → Prop} {a : Act} {o : Oper} {rest : List Oper} {v : Value} (hg : o.guard = none) (hv : ∀ w, C w → (execOp a.eval o).run P w = .ok (.value v) w) (h : wpQuiet P ops C Q rest (a.put o.dst v)) : wpQuiet P ops C Q (o :: rest) a :=
  qstep hg (fun w hw => by unfold Oper.quietAt; rw [hv w hw]; exact ⟨rfl, rfl⟩) h
/-- .. a call. -/
theorem qcall {Q : Act → Prop} {a : Act} {o : Oper} {rest : List Oper} {v : Value} {f : FuncId} {args : Array Value} (hg : o.guard = none) (he : ∀ w, (execOp a.eval o).run P w = .ok (.enter f args) w) (hv : ∀ w, C w → Calls P f args w fun e w' => e = .returned v ∧ C w') (h : wpQuiet P ops C Q rest (a.put o.dst v)) : wpQuiet P ops C Q (o :: rest) a :=
  qstep hg (fun w hw => by unfold Oper.quietAt; rw [he w]; exact ⟨rfl, hv w hw⟩) h
/-- .. what follows behind a letter. -/
theorem qvalK {Q : Act → Prop} {a : Act} {o : Oper} {rest : List Oper} (v : Value) (hg : o.guard = none) (hv : ∀ w, C w → (execOp a.eval o).run P w = .ok (.value v) w) (h : ∀ K : Act → Prop, (∀ a, wpQuiet P ops C Q rest a → K a) → K (a.put o.dst v)) : wpQuiet P ops C Q (o :: rest) a :=
  qval hg hv (h _ fun _ h => h)
theorem qcallK {Q : Act → Prop} {a : Act} {o : Oper} {rest : List Oper} (v : Value) (f : FuncId) (args : Array Value) (hg : o.guard = none) (he : ∀ w, (execOp a.eval o).run P w = .ok (.enter f args) w) (hv : ∀ w, C w → Calls P f args w fun e w' => e = .returned v ∧ C w') (h : ∀ K : Act → Prop, (∀ a, wpQuiet P ops C Q rest a → K a) → K (a.put o.dst v)) : wpQuiet P ops C Q (o :: rest) a :=
  qcall hg he hv (h _ fun _ h => h)
end
end Go.Proofs.YtbcileppebpamaaGreatDoor
/- A region that draws its order and stores at its end into what it loads: S holds behind all operations that D names; what yields one value in all worlds of S is taken first. Inside a fence and outside. -/
namespace Go.Proofs.YtbcileppebpamaaGreatDoor
open Go Go.RowKit
set_option maxRecDepth 100000

/-- Q behind the normal end, False behind any other one. -/
def OnlyNorm (Q : Exit → Act → World → Prop) : Exit → Act → World → Prop
  | .normal, a, w => Q .normal a w
  | _, _, _ => False
theorem OnlyNorm.imp {Q : Exit → Act → World → Prop} : ∀ (e : Exit) (a : Act) (w : World), OnlyNorm Q e a w → Q e a w := fun e a w h => by
  cases e <;> first | exact h | exact (h : False).elim
theorem OnlyNorm.normal {Q : Exit → Act → World → Prop} {a : Act} {w : World} (h : Q .normal a w) : OnlyNorm Q .normal a w := h
theorem OnlyNorm.out {Q : Exit → Act → World → Prop} : ¬ LetsOut (OnlyNorm Q) := fun ⟨_, _, h⟩ => h
section
variable {P : Program} {ops : Array Oper} {F : Fence} {m : Nat}
theorem regD_in (hF : Lets F) (S : World → Prop) (D : Nat → Bool) {id : Nat} {Q : Exit → Act → World → Prop} {a : Act} {w : World} (hm : P.follows .mixedOrders = true) (hnd : noDefer ops = true)
    (h : wpAnyD P .any ops (OnlyNorm Q) S D ops.size (Array.replicate ops.size false) a w.drew) : (Code.region id ops true).wpIn F m P Q a w :=
  wpIn_mono (region_in hF hm hnd OnlyNorm.out (any_of_D S D _ _ _ _ h)) OnlyNorm.imp
theorem regD (S : World → Prop) (D : Nat → Bool) {id : Nat} {Q : Exit → Act → World → Prop} {a : Act} {w : World} (hm : P.follows .mixedOrders = true)
    (h : wpAnyD P .any ops (OnlyNorm Q) S D ops.size (Array.replicate ops.size false) a w.drew) : (Code.region id ops true).wp P Q a w :=
  Code.wp_mono OnlyNorm.imp (region_any hm (any_of_D S D _ _ _ _ h))
/-- Each operation that does not wait for number i is named by D. -/
def dom (ops : Array Oper) (D : Nat → Bool) (i : Nat) : Bool := (List.range ops.size).all fun j => D j || !demand ops i j
theorem takeE {Q' : Exit → Act → World → Prop} {S : World → Prop} {D : Nat → Bool} {i : Nat} {oi : Oper} (v : Value) {fuel : Nat} {listed : Array Bool} {a : Act} {w : World} {d : Option Tmp} (hi : ops[i]? = some oi)
    (hs : Region.noSelect ops = true) (hD : dom ops D i = true) (hf : Region.free .any ops listed i = true) (hr : (Region.ready .any ops listed).contains i = true)
    (hQ : ∀ c a w, Q' (.panic c) (a.put oi.dst v) w → Q' (.panic c) a w) (hg : oi.guard = none) (hy : ∀ W, S W → (execOp a.eval oi).run P W = .ok (.value v) W) (hS : S w) (hd : oi.dst = d)
    (h : wpAnyD P .any ops Q' S D fuel (listed.setIfInBounds i true) (a.put d v) w) : wpAnyD P .any ops Q' S D (fuel + 1) listed a w := by
  subst hd
  refine anyD_first hi hs hQ (fun j oj hj hno => ?_) fuel listed a w (Region.free_spec hi hf) (by simpa using hr) (.inl ⟨by simp [Region.wanted, hg], hy⟩) hS h
  unfold dom at hD
  have hlt : j < ops.size := (Array.getElem?_eq_some_iff.1 hj).1
  have h1 := List.all_eq_true.1 hD j (List.mem_range.2 hlt)
  rw [Bool.or_eq_true] at h1
  refine h1.resolve_right fun h2 => ?_
  unfold demand at h2
  rw [hj] at h2
  simp only [Bool.not_not] at h2
  obtain ⟨e, he1, he2⟩ := Array.any_eq_true'.1 h2
  rw [Bool.and_eq_true, beq_iff_eq] at he2
  exact hno e he1 he2.1 he2.2
theorem dom_spec {D : Nat → Bool} {i : Nat} (hD : dom ops D i = true) : ∀ j oj, ops[j]? = some oj → (∀ e ∈ oj.after, Region.binds .any e = true → e.on ≠ i) → D j = true := fun j oj hj hno => by
  unfold dom at hD
  have hlt : j < ops.size := (Array.getElem?_eq_some_iff.1 hj).1
  have h1 := List.all_eq_true.1 hD j (List.mem_range.2 hlt)
  rw [Bool.or_eq_true] at h1
  refine h1.resolve_right fun h2 => ?_
  unfold demand at h2
  rw [hj] at h2
  simp only [Bool.not_not] at h2
  obtain ⟨e, he1, he2⟩ := Array.any_eq_true'.1 h2
  rw [Bool.and_eq_true, beq_iff_eq] at he2
  exact hno e he1 he2.1 he2.2
/-- .. a guarded operation that is wanted, and one that is not. -/
theorem takeY {Q' : Exit → Act → World → Prop} {S : World → Prop} {D : Nat → Bool} {i : Nat} {oi : Oper} (v : Value) {fuel : Nat} {listed : Array Bool} {a : Act} {w : World} {d : Option Tmp} (hi : ops[i]? = some oi)
    (hs : Region.noSelect ops = true) (hD : dom ops D i = true) (hf : Region.free .any ops listed i = true) (hr : (Region.ready .any ops listed).contains i = true)
    (hQ : ∀ c a w, Q' (.panic c) (a.put oi.dst v) w → Q' (.panic c) a w) (hg : Region.wanted oi (yielded ops a.tmps) = true) (hy : ∀ W, S W → (execOp a.eval oi).run P W = .ok (.value v) W) (hS : S w) (hd : oi.dst = d)
    (h : wpAnyD P .any ops Q' S D fuel (listed.setIfInBounds i true) (a.put d v) w) : wpAnyD P .any ops Q' S D (fuel + 1) listed a w := by
  subst hd
  exact anyD_first hi hs hQ (dom_spec hD) fuel listed a w (Region.free_spec hi hf) (by simpa using hr) (.inl ⟨hg, hy⟩) hS h
theorem takeN {Q' : Exit → Act → World → Prop} {S : World → Prop} {D : Nat → Bool} {i : Nat} {oi : Oper} {fuel : Nat} {listed : Array Bool} {a : Act} {w : World} {d : Option Tmp} (hi : ops[i]? = some oi)
    (hs : Region.noSelect ops = true) (hD : dom ops D i = true) (hf : Region.free .any ops listed i = true) (hr : (Region.ready .any ops listed).contains i = true)
    (hQ : ∀ c a w, Q' (.panic c) (a.put oi.dst undef) w → Q' (.panic c) a w) (hg : Region.wanted oi (yielded ops a.tmps) = false) (hS : S w) (hd : oi.dst = d)
    (h : wpAnyD P .any ops Q' S D fuel (listed.setIfInBounds i true) (a.put d undef) w) : wpAnyD P .any ops Q' S D (fuel + 1) listed a w := by
  subst hd
  exact anyD_first hi hs hQ (dom_spec hD) fuel listed a w (Region.free_spec hi hf) (by simpa using hr) (.inr ⟨hg, rfl⟩) hS h
theorem stepY {md : Region.Mode} {Q' : Exit → Act → World → Prop} {S : World → Prop} {D : Nat → Bool} (j : Nat) {oj : Oper} {fuel : Nat} {listed : Array Bool} {a : Act} {w : World} (hr : Region.ready md ops listed = [j]) (hj : ops[j]? = some oj) (hg : Region.wanted oj (yielded ops a.tmps) = true)
    (h : ∀ K : Act → World → Prop, (∀ a' w', (D j = true → S w') → wpAnyD P md ops Q' S D fuel (listed.setIfInBounds j true) a' w' → K a' w') → oj.wp P a w K Q') : wpAnyD P md ops Q' S D (fuel + 1) listed a w := by
  refine ⟨fun h0 => (by rw [h0] at hr; cases hr), fun i hi => ?_⟩
  rw [hr] at hi
  obtain rfl : i = j := by simpa using hi
  unfold wpOp
  simp only [hj]
  rw [if_pos hg]
  exact .inl (h _ fun a' w' h1 h2 => ⟨h1, h2⟩)
theorem stepN {md : Region.Mode} {Q' : Exit → Act → World → Prop} {S : World → Prop} {D : Nat → Bool} (j : Nat) {oj : Oper} {fuel : Nat} {listed : Array Bool} {a : Act} {w : World} (hr : Region.ready md ops listed = [j]) (hj : ops[j]? = some oj) (hg : Region.wanted oj (yielded ops a.tmps) = false)
    (hS : D j = true → S w) (h : wpAnyD P md ops Q' S D fuel (listed.setIfInBounds j true) (a.put oj.dst undef) w) : wpAnyD P md ops Q' S D (fuel + 1) listed a w := by
  refine ⟨fun h0 => (by rw [h0] at hr; cases hr), fun i hi => ?_⟩
  rw [hr] at hi
  obtain rfl : i = j := by simpa using hi
  unfold wpOp
  simp only [hj, hg]
  exact ⟨hS, h⟩
/-- Two operations may come up. -/
theorem stepD2 {md : Region.Mode} {Q' : Exit → Act → World → Prop} {S : World → Prop} {D : Nat → Bool} (i j : Nat) {oi oj : Oper} {fuel : Nat} {listed : Array Bool} {a : Act} {w : World} (hr : Region.ready md ops listed = [i, j]) (hi : ops[i]? = some oi) (hgi : oi.guard = none) (hj : ops[j]? = some oj) (hgj : oj.guard = none)
    (h1 : ∀ K : Act → World → Prop, (∀ a' w', (D i = true → S w') → wpAnyD P md ops Q' S D fuel (listed.setIfInBounds i true) a' w' → K a' w') → oi.wp P a w K Q')
    (h2 : ∀ K : Act → World → Prop, (∀ a' w', (D j = true → S w') → wpAnyD P md ops Q' S D fuel (listed.setIfInBounds j true) a' w' → K a' w') → oj.wp P a w K Q') : wpAnyD P md ops Q' S D (fuel + 1) listed a w := by
  refine ⟨fun h0 => (by rw [h0] at hr; cases hr), fun k hk => ?_⟩
  rw [hr] at hk
  have hk' : k = i ∨ k = j := by simpa using hk
  rcases hk' with rfl | rfl
  · unfold wpOp
    simp only [hi]
    rw [if_pos (by simp [Region.wanted, hgi])]
    exact .inl (h1 _ fun a' w' h1 h2 => ⟨h1, h2⟩)
  · unfold wpOp
    simp only [hj]
    rw [if_pos (by simp [Region.wanted, hgj])]
    exact .inl (h2 _ fun a' w' h1 h2 => ⟨h1, h2⟩)
/-- An operation of a list that yields a value, inside a fence. -/
theorem wpListIn_value (hF : Lets F) {rest : List Oper} {o : Oper} {Q : Exit → Act → World → Prop} {a : Act} {w : World} (hgd : o.guard = none) (hd : ∀ c, o.op ≠ .defer c) (v : Value) (hrun : (execOp a.eval o).run P w = .ok (.value v) w)
    (hK : wpListIn F m P ops Q rest (a.put o.dst v) w) : wpListIn F m P ops Q (o :: rest) a w :=
  wpListIn_plain hgd fun K hK' => oper_in hF hd (fun _ _ h => h) (Q' := Q) (K := K) (by unfold Oper.wp; rw [hrun]; exact hK' _ _ hK)
end
end Go.Proofs.YtbcileppebpamaaGreatDoor
