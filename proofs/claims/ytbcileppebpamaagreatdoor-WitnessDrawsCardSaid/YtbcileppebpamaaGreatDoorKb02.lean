/- Lemmas for WitnessDraws: part 2. -/
import Derived.StillTail
import Derived.Maps.AppendAt
import Derived.Laws.AppendOwnNone
import Derived.Lib.SlTrimSet
import Derived.Below
import Derived.Shelf.Strings.SlTrimAscii
import Derived.Shelf.Strings.Repeat
import Derived.Shelf.Strings.OnBuilder
import Derived.Shelf.Strconv.Itoa3
import Derived.Lib.ConvBytes
import Derived.Lib.AtoiErrMem
import Derived.Shelf.Slices.Clone
import Derived.Test.YtbcileppebpamaaGreatDoorKb01
set_option linter.unusedSimpArgs false
set_option linter.unusedVariables false
namespace Go.Proofs.YtbcileppebpamaaGreatDoor
open Go Go.RowKit
set_option maxRecDepth 100000
/-- How many operations of the head are not done yet. -/
def cntU (listed : Array Bool) : Nat → Nat
  | 0 => 0
  | n + 1 => (if listed.getD n true = true then 0 else 1) + cntU listed n
theorem cntU_congr {l l' : Array Bool} : ∀ n, (∀ j, j < n → l.getD j true = l'.getD j true) → cntU l n = cntU l' n
  | 0, _ => rfl
  | n + 1, h => by rw [cntU, cntU, h n (by omega), cntU_congr n fun j hj => h j (by omega)]
theorem getD_set_same {l : Array Bool} {j : Nat} : (l.setIfInBounds j true).getD j true = true := by
  rw [Array.getD_eq_getD_getElem?, Array.getElem?_setIfInBounds]
  simp
  split <;> simp
theorem cntU_set {l : Array Bool} {j : Nat} (hu : l.getD j true = false) : ∀ n, j < n → cntU (l.setIfInBounds j true) n + 1 = cntU l n
  | n + 1, h => by
    rw [cntU, cntU]
    by_cases e : n = j
    · subst e
      rw [getD_set_same, hu, if_pos rfl, if_neg (by simp), cntU_congr n fun i hi => getD_set_ne true (by omega)]
      omega
    · rw [getD_set_ne true (by omega), Nat.add_assoc, cntU_set hu n (by omega)]
theorem cntU_zero {l : Array Bool} : ∀ n, cntU l n = 0 → ∀ j, j < n → l.getD j true = true
  | n + 1, h, j, hj => by
    rw [cntU] at h
    by_cases e : j = n
    · subst e
      apply Classical.byContradiction
      intro hn
      rw [if_neg hn] at h
      omega
    · exact cntU_zero n (by omega) j (by omega)
/-- The head is done, and nothing of the tail. -/
def headL (size n : Nat) : Array Bool := Array.ofFn (n := size) fun i => decide (i.val < n)
/-- Values are put into the slots of those operations that are done. -/
def putL (listed : Array Bool) (ds : List Tmp) (vs : Nat → Value) : Nat → Act → Act
  | 0, a => a
  | n + 1, a => if listed.getD n true = true then (putL listed ds vs n a).put (some (ds.getD n 0)) (vs n) else putL listed ds vs n a
/-- .. into all of them. -/
def puts (vs : Nat → Value) : List Tmp → Nat → Act → Act
  | [], _, a => a
  | d :: ds, k, a => puts vs ds (k + 1) (a.put (some d) (vs k))
theorem put_comm (a : Act) (d e : Tmp) (u v : Value) (h : d ≠ e) : (a.put (some d) u).put (some e) v = (a.put (some e) v).put (some d) u := by
  simp only [Act.put]
  rw [Array.setIfInBounds_comm _ _ h]
theorem putL_congr {l l' : Array Bool} {ds : List Tmp} {vs vs' : Nat → Value} (a : Act) : ∀ n, (∀ j, j < n → l.getD j true = l'.getD j true ∧ (l'.getD j true = true → vs j = vs' j)) → putL l ds vs n a = putL l' ds vs' n a
  | 0, _ => rfl
  | n + 1, h => by
    obtain ⟨h1, h2⟩ := h n (by omega)
    rw [putL, putL, h1, putL_congr a n fun j hj => h j (by omega)]
    split
    · rename_i e
      rw [h2 e]
    · rfl
def upd1 (vs : Nat → Value) (j : Nat) (v : Value) : Nat → Value := fun i => if i = j then v else vs i
theorem putL_set {l : Array Bool} {ds : List Tmp} {vs : Nat → Value} (a : Act) (v : Value) {j : Nat} (hu : l.getD j true = false) : ∀ n, j < n → (∀ i, i < n → i ≠ j → ds.getD i 0 ≠ ds.getD j 0) → (putL l ds vs n a).put (some (ds.getD j 0)) v = putL (l.setIfInBounds j true) ds (upd1 vs j v) n a
  | n + 1, h, hi => by
    by_cases e : n = j
    · subst e
      rw [putL, putL, hu, getD_set_same, if_neg (by simp), if_pos rfl]
      rw [putL_congr (l' := l.setIfInBounds n true) (vs' := upd1 vs n v) a n fun i hin => ⟨(getD_set_ne true (by omega)).symm, fun _ => by unfold upd1; rw [if_neg (by omega)]⟩]
      unfold upd1
      rw [if_pos rfl]
    · have ih := putL_set (vs := vs) a v hu n (by omega) fun i h1 h2 => hi i (by omega) h2
      rw [putL, putL, getD_set_ne true (by omega)]
      split
      · rw [put_comm _ _ _ _ _ (hi n (by omega) (by omega)), ih]
        unfold upd1
        rw [if_neg (by omega)]
      · exact ih
theorem puts_snoc (vs : Nat → Value) : ∀ (ds : List Tmp) (d : Tmp) (k : Nat) (a : Act), puts vs (ds ++ [d]) k a = (puts vs ds k a).put (some d) (vs (k + ds.length))
  | [], d, k, a => rfl
  | e :: ds, d, k, a => by
    rw [List.cons_append, puts, puts, puts_snoc vs ds d (k + 1), List.length_cons]
    congr 2
    omega
theorem putL_all {l : Array Bool} (ds : List Tmp) (vs : Nat → Value) (a : Act) : ∀ n, n ≤ ds.length → (∀ j, j < n → l.getD j true = true) → putL l ds vs n a = puts vs (ds.take n) 0 a
  | 0, _, _ => by simp [putL, puts]
  | n + 1, hn, h => by
    rw [putL, if_pos (h n (by omega)), putL_all ds vs a n (by omega) fun j hj => h j (by omega), List.take_add_one, List.getElem?_eq_getElem (by omega), Option.toList_some, puts_snoc]
    rw [List.getD_eq_getElem?_getD, List.getElem?_eq_getElem (by omega), Option.getD_some, List.length_take]
    congr 2
    omega
theorem eval_put (a : Act) (d t : Tmp) (v : Value) : (a.put (some d) v).eval (.tmp t) = if d = t ∧ d < a.tmps.size then v else a.eval (.tmp t) := by
  simp only [Act.put, Act.eval, Array.getD_eq_getD_getElem?, Array.getElem?_setIfInBounds]
  by_cases h : d = t
  · subst h
    by_cases h2 : d < a.tmps.size
    · simp [h2]
    · simp [h2]
  · simp [h]
theorem size_putL (l : Array Bool) (ds : List Tmp) (vs : Nat → Value) (a : Act) : ∀ n, (putL l ds vs n a).tmps.size = a.tmps.size
  | 0 => rfl
  | n + 1 => by
    rw [putL]
    split
    · simp only [Act.put, Array.size_setIfInBounds]; exact size_putL l ds vs a n
    · exact size_putL l ds vs a n
theorem eval_putL (l : Array Bool) (ds : List Tmp) (vs : Nat → Value) (a : Act) : ∀ n, n ≤ ds.length → (∀ d ∈ ds, d < a.tmps.size) →
    (∀ t, (∀ j, j < n → ds.getD j 0 ≠ t) → (putL l ds vs n a).eval (.tmp t) = a.eval (.tmp t)) ∧
    ((∀ i j, i < n → j < n → ds.getD i 0 = ds.getD j 0 → i = j) → ∀ j, j < n → l.getD j true = true → (putL l ds vs n a).eval (.tmp (ds.getD j 0)) = vs j)
  | 0, _, _ => ⟨fun t _ => rfl, fun _ j hj => by omega⟩
  | n + 1, hn, hd => by
    obtain ⟨h1, h2⟩ := eval_putL l ds vs a n (by omega) hd
    have hm : ds.getD n 0 ∈ ds := by
      rw [List.getD_eq_getElem?_getD, List.getElem?_eq_getElem (by omega)]
      exact List.getElem_mem _
    constructor
    · intro t ht
      rw [putL]
      split
      · rw [eval_put, if_neg (fun h => ht n (by omega) h.1)]
        exact h1 t fun j hj => ht j (by omega)
      · exact h1 t fun j hj => ht j (by omega)
    · intro hinj j hj hlj
      by_cases e : j = n
      · subst e
        rw [putL, if_pos hlj, eval_put, if_pos ⟨rfl, by rw [size_putL]; exact hd _ hm⟩]
      · rw [putL]
        have h3 := h2 (fun i k hi hk he => hinj i k (by omega) (by omega) he) j (by omega) hlj
        split
        · rw [eval_put, if_neg (fun h => e (hinj n j (by omega) (by omega) h.1).symm)]
          exact h3
        · exact h3
/-- What can be checked of the head. -/
def growB (ops : Array Oper) (n : Nat) (ds : List Tmp) (size : Nat) : Bool :=
  decide (n < ops.size) && Region.sinkB .any ops n && Region.chainB .any ops n && Region.seqB .any ops (ops.size - n) n (headL ops.size n) && decide (ds.length = n) &&
  (List.range n).all (fun j => match ops[j]? with
    | some o => o.guard.isNone && decide (o.dst = some (ds.getD j 0)) && o.after.all (fun e => !Region.binds .any e || decide (e.on < j))
    | none => false) &&
  ds.all (fun d => decide (d < size)) && (List.range n).all (fun i => (List.range n).all fun j => decide (i = j) || decide (ds.getD i 0 ≠ ds.getD j 0))
section
variable {P : Program} {ops : Array Oper}
/-- What is known while the head is under way. -/
structure Grown (n : Nat) (ds : List Tmp) (D : Nat → Value → World → Prop) (blk : Nat → Value → Nat → Prop) (w0 : World) (a0 : Act) (listed : Array Bool) (a : Act) (w : World) (vs : Nat → Value) : Prop where
  bel : Below w0.heap.size w0 w
  act : a = putL listed ds vs n a0
  done : ∀ j, j < n → listed.getD j true = true → D j (vs j) w
  apart : ∀ i j b, i < n → j < n → i ≠ j → listed.getD i true = true → listed.getD j true = true → blk i (vs i) b → ¬ blk j (vs j) b
  new : ∀ i b, i < n → listed.getD i true = true → blk i (vs i) b → w0.heap.size ≤ b
theorem grow_any {n : Nat} {ds : List Tmp} {Q' : Exit → Act → World → Prop} (D : Nat → Value → World → Prop) (blk : Nat → Value → Nat → Prop) (w0 : World) (a0 : Act) (hB : growB ops n ds a0.tmps.size = true)
    (hmono : ∀ j v w w', Below w.heap.size w w' → D j v w → D j v w')
    (hblk : ∀ j v w b, D j v w → blk j v b → b < w.heap.size)
    (hstep : ∀ j oj, j < n → ops[j]? = some oj → ∀ a w, Below w0.heap.size w0 w → (∀ t, t ∉ ds → a.eval (.tmp t) = a0.eval (.tmp t)) →
      (∀ e ∈ oj.after, Region.binds .any e = true → D e.on (a.eval (.tmp (ds.getD e.on 0))) w) →
      ∀ (K : Act → World → Prop), (∀ v w', Below w.heap.size w w' → D j v w' → (∀ b, blk j v b → w.heap.size ≤ b) → K (a.put (some (ds.getD j 0)) v) w') → oj.wp P a w K Q')
    (g : Nat) (_ : g = ops.size - n)
    (htail : ∀ vs w', Below w0.heap.size w0 w' → (∀ j, j < n → D j (vs j) w') → (∀ i j b, i < n → j < n → i ≠ j → blk i (vs i) b → ¬ blk j (vs j) b) → (∀ i b, i < n → blk i (vs i) b → w0.heap.size ≤ b) →
      wpAny P .any ops Q' g (headL ops.size n) (puts vs ds 0 a0) w') :
    ∀ (f : Nat) (listed : Array Bool) (a : Act) (w : World) (vs : Nat → Value), HeadInv .any ops n listed → cntU listed n = f → Grown n ds D blk w0 a0 listed a w vs → wpAny P .any ops Q' (f + g) listed a w := by
  simp only [growB, Bool.and_eq_true, decide_eq_true_eq, List.all_eq_true, List.mem_range] at hB
  obtain ⟨⟨⟨⟨⟨⟨⟨hn, hs⟩, hc⟩, hseq⟩, hlen⟩, hops⟩, hds⟩, hinj0⟩ := hB
  have hop : ∀ j, j < n → ∃ o, ops[j]? = some o ∧ o.guard = none ∧ o.dst = some (ds.getD j 0) ∧ ∀ e ∈ o.after, Region.binds .any e = true → e.on < j := by
    intro j hj
    have h := hops j hj
    cases ho : ops[j]? with
    | none => rw [ho] at h; cases h
    | some o =>
      rw [ho] at h
      simp only [Bool.and_eq_true, decide_eq_true_eq, Option.isNone_iff_eq_none, Array.all_eq_true_iff_forall_mem, Bool.or_eq_true, Bool.not_eq_true'] at h
      refine ⟨o, rfl, h.1.1, h.1.2, fun e he hb => ?_⟩
      rcases h.2 e he with h3 | h3
      · rw [hb] at h3; cases h3
      · exact h3
  have hinj : ∀ i j, i < n → j < n → ds.getD i 0 = ds.getD j 0 → i = j := fun i j hi hj he => by
    have h := hinj0 i hi j hj
    simp only [Bool.or_eq_true, decide_eq_true_eq] at h
    exact h.resolve_right fun h2 => h2 he
  intro f
  induction f with
  | zero =>
    intro listed a w vs inv hcnt hG
    have hall := cntU_zero n hcnt
    have hl : listed = headL ops.size n := by
      apply Array.ext
      · rw [inv.size]; simp [headL]
      · intro i h1 h2
        have h3 : i < ops.size := by rw [← inv.size]; exact h1
        have h4 : listed[i] = listed.getD i true := by rw [Array.getD_eq_getD_getElem?, Array.getElem?_eq_getElem h1]; rfl
        simp only [headL, Array.getElem_ofFn]
        rw [h4]
        rcases Nat.lt_or_ge i n with h | h
        · rw [hall i h, decide_eq_true h]
        · rw [inv.tail i h h3, decide_eq_false (by omega)]
    rw [Nat.zero_add, hG.act, putL_all ds vs a0 n (by omega) hall, List.take_of_length_le (by omega), hl]
    exact htail vs w hG.bel (fun j hj => hG.done j hj (hall j hj)) (fun i j b hi hj hij => hG.apart i j b hi hj hij (hall i hi) (hall j hj)) (fun i b hi => hG.new i b hi (hall i hi))
  | succ f ih =>
    intro listed a w vs inv hcnt hG
    rw [show f + 1 + g = (f + g) + 1 by omega]
    -- an operation that is ready
    have hex : ∃ j, j < n ∧ listed.getD j true = false := by
      apply Classical.byContradiction
      intro hno
      have : ∀ m, m ≤ n → cntU listed m = 0 := fun m => by
        induction m with
        | zero => intro _; rfl
        | succ m ihm =>
          intro hm
          rw [cntU, ihm (by omega)]
          cases hv : listed.getD m true with
          | true => rfl
          | false => exact absurd ⟨m, by omega, hv⟩ hno
      rw [this n (Nat.le_refl _)] at hcnt
      cases hcnt
    have hun : ∃ j, j < n ∧ listed.getD j true = false ∧ ∀ i, i < j → listed.getD i true = true := by
      obtain ⟨j0, h1, h2⟩ := hex
      have : ∀ m, m ≤ j0 → (∃ j, j < n ∧ listed.getD j true = false ∧ ∀ i, i < j → listed.getD i true = true) ∨ ∀ i, i < m → listed.getD i true = true := fun m => by
        induction m with
        | zero => exact fun _ => .inr fun i hi => by omega
        | succ m ihm =>
          intro hm
          rcases ihm (by omega) with h | h
          · exact .inl h
          · cases hv : listed.getD m true with
            | true => exact .inr fun i hi => by by_cases e : i = m; (rw [e]; exact hv); exact h i (by omega)
            | false => exact .inl ⟨m, by omega, hv, h⟩
      rcases this j0 (Nat.le_refl _) with h | h
      · exact h
      · exact ⟨j0, h1, h2, h⟩
    have fd : ∀ {i}, i < n → listed.getD i true = true → listed.getD i false = true := fun {i} hi h => by
      have hlt : i < listed.size := by rw [inv.size]; omega
      rw [Array.getD_eq_getD_getElem?, Array.getElem?_eq_getElem hlt] at h ⊢
      exact h
    refine ⟨fun h0 => ?_, fun j hj => ?_⟩
    · obtain ⟨j, h1, h2, h3⟩ := hun
      obtain ⟨o, ho, _, _, ha⟩ := hop j h1
      have : j ∈ Region.ready .any ops listed := mem_ready.2 ⟨h2, o, ho, fun e he hb => fd (by have := ha e he hb; omega) (h3 _ (ha e he hb))⟩
      rw [h0] at this
      cases this
    · have hjn : j < n := by
        apply Classical.byContradiction
        intro hno
        obtain ⟨i, h1, h2⟩ := hex
        exact tail_waits hs hc hn inv (n - i) i rfl h1 h2 j (by omega) hj
      obtain ⟨hu, o', ho', haf⟩ := mem_ready.1 hj
      obtain ⟨o, ho, hgd, hdst, ha⟩ := hop j hjn
      obtain rfl : o' = o := Option.some.inj (ho'.symm.trans ho)
      unfold wpOp
      simp only [ho]
      rw [if_pos (by simp [Region.wanted, hgd])]
      obtain ⟨e1, e2⟩ := eval_putL listed ds vs a0 n (by omega) (fun d hd => by simpa using hds d hd)
      refine .inl (hstep j o' hjn ho a w hG.bel (fun t ht => ?_) (fun e he hb => ?_) _ fun v w' hb hD hnew => ?_)
      · rw [hG.act]
        refine e1 t fun i hi h => ht ?_
        rw [← h, List.getD_eq_getElem?_getD, List.getElem?_eq_getElem (by omega)]
        exact List.getElem_mem _
      · have h1 := ha e he hb
        have h2 : listed.getD e.on true = true := by
          have h3 := haf e he hb
          have hlt : e.on < listed.size := by rw [inv.size]; omega
          rw [Array.getD_eq_getD_getElem?, Array.getElem?_eq_getElem hlt] at h3 ⊢
          exact h3
        rw [hG.act, e2 hinj e.on (by omega) h2]
        exact hG.done e.on (by omega) h2
      · refine ih (listed.setIfInBounds j true) _ w' (upd1 vs j v) (inv.set hj hjn) (by have := cntU_set hu n hjn; omega) ⟨?_, ?_, fun i hi hl => ?_, fun i k b hi hk hik hli hlk => ?_, fun i b hi hl => ?_⟩
        · exact hG.bel.trans (hb.mono hG.bel.size)
        · rw [hG.act]
          exact putL_set a0 v hu n hjn fun i hi hne he => hne (hinj i j hi hjn he)
        · unfold upd1
          by_cases e : i = j
          · subst e; rw [if_pos rfl]; exact hD
          · rw [if_neg e]
            rw [getD_set_ne true (fun h => e h.symm)] at hl
            exact hmono _ _ _ _ hb (hG.done i hi hl)
        · unfold upd1
          by_cases e1 : i = j
          · subst e1
            rw [if_pos rfl, if_neg (fun h => hik h.symm)]
            rw [getD_set_ne true hik] at hlk
            intro hb1 hb2
            have h1 := hnew b hb1
            have h2 := hblk _ _ _ _ (hG.done k hk hlk) hb2
            omega
          · rw [if_neg e1]
            rw [getD_set_ne true (fun h => e1 h.symm)] at hli
            by_cases e2 : k = j
            · subst e2
              rw [if_pos rfl]
              intro hb1 hb2
              have h1 := hnew b hb2
              have h2 := hblk _ _ _ _ (hG.done i hi hli) hb1
              omega
            · rw [if_neg e2]
              rw [getD_set_ne true (fun h => e2 h.symm)] at hlk
              exact hG.apart i k b hi hk hik hli hlk
        · unfold upd1
          by_cases e : i = j
          · subst e
            rw [if_pos rfl]
            intro hb1
            have := hnew b hb1
            have := hG.bel.size
            omega
          · rw [if_neg e]
            rw [getD_set_ne true (fun h => e h.symm)] at hl
            exact hG.new i b hi hl
end
/-- The whole region. -/
theorem grow_region {P : Program} {id : Nat} {Q : Exit → Act → World → Prop} {a : Act} {w : World} {l : List Oper} (n : Nat) (ds : List Tmp) (hm : P.follows .mixedOrders = true) (hB : growB l.toArray n ds a.tmps.size = true)
    (D : Nat → Value → World → Prop) (blk : Nat → Value → Nat → Prop)
    (hmono : ∀ j v w w', Below w.heap.size w w' → D j v w → D j v w')
    (hblk : ∀ j v w b, D j v w → blk j v b → b < w.heap.size)
    (hstep : ∀ j oj, j < n → l.toArray[j]? = some oj → ∀ a' w', Below w.heap.size w w' → (∀ t, t ∉ ds → a'.eval (.tmp t) = a.eval (.tmp t)) →
      (∀ e ∈ oj.after, Region.binds .any e = true → D e.on (a'.eval (.tmp (ds.getD e.on 0))) w') →
      ∀ (K : Act → World → Prop), (∀ v w'', Below w'.heap.size w' w'' → D j v w'' → (∀ b, blk j v b → w'.heap.size ≤ b) → K (a'.put (some (ds.getD j 0)) v) w'') → oj.wp P a' w' K Q)
    (htail : ∀ vs w', Below w.heap.size w w' → (∀ j, j < n → D j (vs j) w') → (∀ i j b, i < n → j < n → i ≠ j → blk i (vs i) b → ¬ blk j (vs j) b) → (∀ i b, i < n → blk i (vs i) b → w.heap.size ≤ b) →
      wpList P l.toArray Q (l.drop n) (puts vs ds 0 a) w') : (Code.region id l.toArray true).wp P Q a w := by
  have hB' := hB
  simp only [growB, Bool.and_eq_true, decide_eq_true_eq] at hB'
  obtain ⟨⟨⟨⟨⟨⟨⟨hn, hs⟩, hc⟩, hseq⟩, hlen⟩, _⟩, _⟩, _⟩ := hB'
  refine region_any hm ?_
  have hd0 : Below w.heap.size w w.drew := ⟨rfl, rfl, rfl, Nat.le_refl _, fun _ _ => rfl⟩
  have hsz : w.drew.heap.size = w.heap.size := rfl
  have hdl : (l.drop n).length = l.toArray.size - n := by simp
  have inv0 : HeadInv .any l.toArray n (Array.replicate l.toArray.size false) :=
    ⟨by simp, fun j oj _ hl => (by rw [getD_replicate_false] at hl; cases hl), fun t _ ht => getD_in (by simpa using ht) (getD_replicate_false _ _)⟩
  have hrep : ∀ m, m ≤ n → cntU (Array.replicate l.toArray.size false) m = m := fun m => by
    induction m with
    | zero => intro _; rfl
    | succ m ih =>
      intro hm
      have h0 : (Array.replicate l.toArray.size false).getD m true = false := by
        rw [Array.getD_eq_getD_getElem?, Array.getElem?_replicate, if_pos (by omega)]
        rfl
      rw [cntU, ih (by omega), h0, if_neg (by simp)]
      omega
  have hfalse : ∀ j, j < n → (Array.replicate l.toArray.size false).getD j true = false := fun j hj => by
    rw [Array.getD_eq_getD_getElem?, Array.getElem?_replicate, if_pos (by omega)]
    rfl
  have hput0 : ∀ m, m ≤ n → putL (Array.replicate l.toArray.size false) ds (fun _ => undef) m a = a := fun m => by
    induction m with
    | zero => intro _; rfl
    | succ m ih => intro hm; rw [putL, hfalse m (by omega), if_neg (by simp), ih (by omega)]
  have h := grow_any (P := P) (ops := l.toArray) (n := n) (ds := ds) (Q' := Q) D blk w.drew a hB hmono hblk
    (fun j oj hj hoj a' w' hb he hdep K hK => hstep j oj hj hoj a' w' (hd0.trans hb) he hdep K hK) (l.drop n).length hdl
    (fun vs w' hb hD hap hnw => wpAny_of_seq (l.drop n) n _ _ w' (fun j => by simp [List.getElem?_drop]) (by rw [hdl]; exact hseq) (htail vs w' (hd0.trans hb) hD hap hnw))
    n (Array.replicate l.toArray.size false) a w.drew (fun _ => undef) inv0 (hrep n (Nat.le_refl _))
    ⟨Below.refl _ _, (hput0 n (Nat.le_refl _)).symm, fun j hj hl => (by rw [hfalse j hj] at hl; cases hl), fun i j b hi _ _ hl => (by rw [hfalse i hi] at hl; cases hl), fun i b hi hl => (by rw [hfalse i hi] at hl; cases hl)⟩
  rwa [hdl, show n + (l.toArray.size - n) = l.toArray.size by omega] at h
end Go.Proofs.YtbcileppebpamaaGreatDoor
namespace Go.Proofs.YtbcileppebpamaaGreatDoor
open Go Go.RowKit
set_option maxRecDepth 100000
section
variable {F : Fence} {n : Nat} {P : Program} {α : Type}
end
end Go.Proofs.YtbcileppebpamaaGreatDoor
set_option linter.unusedSimpArgs false
set_option linter.unusedVariables false
namespace Go.Proofs.YtbcileppebpamaaGreatDoor
open Go Go.RowKit
set_option maxRecDepth 100000
theorem infoInt : (Tryz.prog.info? 3).map (fun i => (i.zero, i.size, i.bytes)) = some (some (.int .i64 0), 1, 8) := by kernel_rfl
/-- A slice of ints that was made from block base on. -/
def Ints (w : World) (base : Nat) (v : Value) (xs : List Int) : Prop := w.ownsRow base 3 1 v xs.length (xs.map (Value.int .i64))
/-- A slice that reads as a list. -/
def Reads (w : World) (v : Value) (xs : List Int) : Prop :=
  (xs = [] ∧ ∃ a c, v = .slice a 0 c) ∨ (∃ g o c, v = .slice (some ⟨g, o, none⟩) xs.length c ∧ g < w.heap.size ∧ ∀ k (h : k < xs.length), w.cell? ⟨g, o + k, none⟩ = some (.int .i64 xs[k]))
theorem Ints.mono {w : World} {B B' : Nat} {v : Value} {xs : List Int} (h : Ints w B v xs) (hB : B' ≤ B) : Ints w B' v xs := by
  refine ⟨h.1, ?_⟩
  rcases h.2 with h2 | ⟨g, cap, cur, h3, h4, h5⟩
  · exact .inl h2
  · exact .inr ⟨g, cap, cur, h3, by omega, h5⟩
theorem Ints.below {w w' : World} {B : Nat} {v : Value} {xs : List Int} (h : Ints w B v xs) (hb : Below w.heap.size w w') : Ints w' B v xs := by
  refine ⟨h.1, ?_⟩
  rcases h.2 with h2 | ⟨g, cap, cur, h3, h4, h5, h6⟩
  · exact .inl h2
  · exact .inr ⟨g, cap, cur, h3, h4, heap_below hb h5 (heap_lt h5), h6⟩
theorem Ints.reads {w : World} {B : Nat} {v : Value} {xs : List Int} (h : Ints w B v xs) : Reads w v xs := by
  rcases h.2 with ⟨h2, h3⟩ | ⟨g, cap, cur, h3, h4, h5, _, _, _, h7⟩
  · exact .inl ⟨List.eq_nil_of_length_eq_zero h3, none, 0, h2⟩
  · refine .inr ⟨g, 0, cap, h3, heap_lt h5, fun k hk => ?_⟩
    rw [Nat.zero_add, cell_of_row _ _ k _ _ (0, 0) h5]
    have : (cur.toList.take (xs.length * 1))[k]? = (xs.map (Value.int .i64))[k]? := by rw [h7]
    rw [List.getElem?_take, if_pos (by omega)] at this
    rw [← Array.getElem?_toList, this]
    simp [hk]
theorem Reads.below {w w' : World} {v : Value} {xs : List Int} (h : Reads w v xs) (hb : Below w.heap.size w w') : Reads w' v xs := by
  rcases h with h | ⟨g, o, c, h1, h2, h3⟩
  · exact .inl h
  · exact .inr ⟨g, o, c, h1, Nat.lt_of_lt_of_le h2 hb.size, fun k hk => (hb.cell (p := ⟨g, o + k, none⟩) h2).trans (h3 k hk)⟩
theorem Ints.nil (w : World) (B : Nat) : Ints w B (.slice none 0 0) [] := World.ownsRow_nil w B _ _
theorem Ints.made (w : World) (B : Nat) (hB : B ≤ w.heap.size) : Ints (w.alloc (.cells #[] 3)) B (.slice (some ⟨w.heap.size, 0, none⟩) 0 0) [] :=
  World.ownsRow_made w #[] 0 hB (by decide) rfl
theorem Ints.one (w : World) (B : Nat) (hB : B ≤ w.heap.size) (n : Int) : Ints (w.alloc (.cells #[.int .i64 n] 3)) B (.slice (some ⟨w.heap.size, 0, none⟩) 1 1) [n] :=
  ⟨rfl, .inr ⟨w.heap.size, 1, #[.int .i64 n], rfl, hB, heap_alloc_new w _, by simp, by decide, rfl, rfl⟩⟩
/-- Append of one int to a slice of the call's own. -/
theorem wp_append_int {ops : Array Oper} {rest : List Oper} {o : Oper} {a : Act} {w : World} {Q : Exit → Act → World → Prop} (hgd : o.guard = none) (s x : Operand)
    (ho : o.op = .call { callee := .builtin .append, args := #[s, x], argTypes := #[72, 72] }) (B : Nat) (v : Value) (xs : List Int) (hs : a.eval s = v) (hown : Ints w B v xs)
    (n : Int) (g c : Nat) (hx : a.eval x = .slice (some ⟨g, 0, none⟩) 1 c) (hc : w.cell? ⟨g, 0, none⟩ = some (.int .i64 n)) (hlen : xs.length < 1000000000) (hB : B ≤ w.heap.size)
    (h : ∀ v' w', Ints w' B v' (xs ++ [n]) → w.grownBy w' v.ownBlock → wpList Tryz.prog ops Q rest (a.put o.dst v') w') : wpList Tryz.prog ops Q (o :: rest) a w := by
  obtain ⟨i0, hi, hz0, hz1, hz2⟩ := info_parts infoInt
  refine wpList_append_own w hgd s x 72 ho B 3 i0 (.int .i64 0) 1 8 Tryz.underlying72 hi hz0 hz1 hz2 rfl (by decide) v xs.length _ hs hown ⟨g, 0, none⟩ 1 c [.int .i64 n] hx rfl
    (fun j u hj => by
      obtain rfl : j = 0 := by
        cases j with
        | zero => rfl
        | succ j => simp at hj
      simp at hj; subst hj; exact hc) (fun u hu => by simp at hu; subst hu; rfl) (by unfold maxLen; omega) (by omega) hB ?_
  intro v' w' h1 h2 _
  refine h v' w' ?_ h2
  unfold Ints
  simpa using h1
theorem grown_below {w0 w w' : World} {C B : Nat} {v : Value} {xs : List Int} (hb : Below C w0 w) (hg : w.grownBy w' v.ownBlock) (h : Ints w B v xs) (hC : C ≤ B) (hCs : C ≤ w.heap.size) : Below C w0 w' :=
  hb.grown hg hCs fun k e => by have := (World.ownsRow.lt h k e).1; omega
end Go.Proofs.YtbcileppebpamaaGreatDoor
namespace Go.Proofs.YtbcileppebpamaaGreatDoor
open Go Go.RowKit
set_option maxRecDepth 100000
/-- A slice that came in: nil, or at an address. -/
def ReadsA (w : World) (v : Value) (xs : List Int) : Prop :=
  (xs = [] ∧ v = .slice none 0 0) ∨ (∃ (a : Addr) (c : Nat), v = .slice (some a) xs.length c ∧ (0 < xs.length → a.block < w.heap.size) ∧ ∀ k (h : k < xs.length), w.cell? (a.add k) = some (.int .i64 xs[k]))
theorem ReadsA.below {w w' : World} {v : Value} {xs : List Int} (h : ReadsA w v xs) (hb : Below w.heap.size w w') : ReadsA w' v xs := by
  rcases h with h | ⟨a, c, h1, h2, h3⟩
  · exact .inl h
  · refine .inr ⟨a, c, h1, fun h => Nat.lt_of_lt_of_le (h2 h) hb.size, fun k hk => ?_⟩
    have hl := h2 (by omega)
    have : (a.add k).block = a.block := by unfold Addr.add; split <;> rfl
    rw [hb.cell (by rw [this]; exact hl)]
    exact h3 k hk
theorem ReadsA.plain {w : World} {a : Addr} {n : Nat} {xs : List Int} (hn : 0 < n) (h3 : ∀ k (h : k < xs.length), w.cell? (a.add k) = some (.int .i64 xs[k])) (hl : n = xs.length) : ∃ g o, a = ⟨g, o, none⟩ ∧ ∀ k (h : k < xs.length), w.cell? ⟨g, o + k, none⟩ = some (.int .i64 xs[k]) := by
  obtain ⟨b, off, spot⟩ := a
  have hspot : spot = none := by simpa [Addr.add] using World.cell?_spot (h3 0 (by omega))
  subst hspot
  refine ⟨b, off, rfl, fun k hk => ?_⟩
  have := h3 k hk
  have hadd : (⟨b, off, none⟩ : Addr).add k = ⟨b, off + k, none⟩ := by unfold Addr.add; split <;> simp_all
  rwa [hadd] at this
theorem ReadsA.reads {w : World} {v : Value} {xs : List Int} (h : ReadsA w v xs) : Reads w v xs := by
  rcases h with ⟨rfl, rfl⟩ | ⟨a, c, h1, h2, h3⟩
  · exact .inl ⟨rfl, _, _, rfl⟩
  · by_cases h0 : xs.length = 0
    · rw [h0] at h1
      exact .inl ⟨List.eq_nil_of_length_eq_zero h0, _, _, h1⟩
    · obtain ⟨g, o, rfl, h4⟩ := ReadsA.plain (n := xs.length) (by omega) h3 rfl
      exact .inr ⟨g, o, c, h1, h2 (by omega), h4⟩
theorem ReadsA.form {w : World} {v : Value} {xs : List Int} (h : ReadsA w v xs) : ∃ p c, v = .slice p xs.length c := by
  rcases h with ⟨rfl, rfl⟩ | ⟨a, c, h1, _⟩
  · exact ⟨none, 0, rfl⟩
  · exact ⟨_, _, h1⟩
end Go.Proofs.YtbcileppebpamaaGreatDoor
set_option linter.unusedSimpArgs false
set_option linter.unusedVariables false
namespace Go.Proofs.YtbcileppebpamaaGreatDoor
open Go Go.RowKit
/-- The hash, byte by byte. -/
def hashN : Nat → List UInt8 → Nat
  | h, [] => h
  | h, c :: l => hashN ((h ^^^ c.toNat) * 1099511628211 % 18446744073709551616) l
theorem hashN_app : ∀ (a b : List UInt8) (h : Nat), hashN h (a ++ b) = hashN (hashN h a) b
  | [], _, _ => rfl
  | _ :: a, b, _ => hashN_app a b _
theorem hashN_lt : ∀ (l : List UInt8) (h : Nat), h < 18446744073709551616 → hashN h l < 18446744073709551616
  | [], _, hh => hh
  | _ :: l, _, _ => hashN_lt l _ (Nat.mod_lt _ (by decide))
def h0N : Nat := 14695981039346656037
/-- A digit of sixteen. -/
def hexD (d : Nat) : UInt8 := if d < 10 then UInt8.ofNat (48 + d) else UInt8.ofNat (87 + d)
/-- The digits of a number, the highest first: as many as are asked for. -/
def hexK : Nat → Nat → List UInt8
  | 0, _ => []
  | k + 1, n => hexK k (n / 16) ++ [hexD (n % 16)]
theorem hexK_len : ∀ k n, (hexK k n).length = k
  | 0, _ => rfl
  | k + 1, n => by simp [hexK, hexK_len k]
def hex16 (n : Nat) : List UInt8 := hexK 16 n
def hashL (l : List UInt8) : List UInt8 := hex16 (hashN h0N l)
/-- What a salt, a hash is made of. -/
def saltB (c : UInt8) : Bool := (decide (97 ≤ c.toNat) && decide (c.toNat ≤ 122)) || (decide (48 ≤ c.toNat) && decide (c.toNat ≤ 57))
def hexB (c : UInt8) : Bool := (decide (97 ≤ c.toNat) && decide (c.toNat ≤ 102)) || (decide (48 ≤ c.toNat) && decide (c.toNat ≤ 57))
def isSaltL (l : List UInt8) : Bool := decide (1 ≤ l.length) && decide (l.length ≤ 20) && l.all saltB
def isHashL (l : List UInt8) : Bool := decide (l.length = 16) && l.all hexB
theorem hexK_zero : ∀ k, hexK k 0 = List.replicate k 48
  | 0 => rfl
  | k + 1 => by
    rw [hexK, show 0 / 16 = 0 from rfl, hexK_zero k, List.replicate_succ']
    rfl
end Go.Proofs.YtbcileppebpamaaGreatDoor
set_option linter.unusedSimpArgs false
set_option linter.unusedVariables false
namespace Go.Proofs.YtbcileppebpamaaGreatDoor
open Go Go.RowKit Go.Shelf
set_option maxRecDepth 100000
theorem within_c (n a b : Int) (w : World) : Calls Tryz.prog 36 #[.int .i64 n, .int .i64 a, .int .i64 b] w fun e w' => e = .returned (.bool (decide (a ≤ n) && decide (n ≤ b))) ∧ w = w' := by
  by_cases h1 : a ≤ n
  · have d1 : decide (a ≤ n) = true := decide_eq_true h1
    go_enter Tryz.func36, Tryz.ntmps36
    go_wp2_with fail
    go_ret
    exact ⟨by simp [d1], rfl⟩
  · have d1 : decide (a ≤ n) = false := decide_eq_false h1
    go_enter Tryz.func36, Tryz.ntmps36
    go_wp2_with fail
    go_ret
    exact ⟨by simp [d1], rfl⟩
/-- One byte more. -/
theorem mul_u64 (x : Nat) : IntKind.u64.wrap (((x : Nat) : Int) * 1099511628211) = ((x * 1099511628211 % 18446744073709551616 : Nat) : Int) := by
  show (((x : Nat) : Int) * 1099511628211) % 18446744073709551616 = _
  rw [Int.natCast_emod, Int.natCast_mul]
  rfl
theorem bits_natU (a : Nat) (h : a < 18446744073709551616) : (BitVec.ofInt 64 (a : Int)).toNat = a := by
  rw [BitVec.toNat_ofInt]; omega
theorem wrap_natU (a : Nat) (h : a < 18446744073709551616) : IntKind.u64.wrap (a : Int) = a := by
  show ((a : Int) % 18446744073709551616) = a
  omega
theorem u64_xor (a b : Nat) (ha : a < 18446744073709551616) (hb : b < 18446744073709551616) : bits .xor .u64 (a : Int) (b : Int) = ((a ^^^ b : Nat) : Int) := by
  show IntKind.u64.wrap (((BitVec.ofInt 64 (a : Int) ^^^ BitVec.ofInt 64 (b : Int)).toNat : Nat) : Int) = _
  rw [BitVec.toNat_xor, bits_natU a ha, bits_natU b hb]
  exact wrap_natU _ (Nat.xor_lt_two_pow (n := 64) ha hb)
theorem u64_and (a b : Nat) (ha : a < 18446744073709551616) (hb : b < 18446744073709551616) : bits .and .u64 (a : Int) (b : Int) = ((a &&& b : Nat) : Int) := by
  show IntKind.u64.wrap (((BitVec.ofInt 64 (a : Int) &&& BitVec.ofInt 64 (b : Int)).toNat : Nat) : Int) = _
  rw [BitVec.toNat_and, bits_natU a ha, bits_natU b hb]
  exact wrap_natU _ (Nat.lt_of_le_of_lt Nat.and_le_left ha)
theorem u64_and15 (a : Nat) (ha : a < 18446744073709551616) : bits .and .u64 ((a : Nat) : Int) 15 = ((a % 16 : Nat) : Int) := by
  rw [show (15 : Int) = ((15 : Nat) : Int) from rfl, u64_and a 15 ha (by omega), show (15 : Nat) = 2 ^ 4 - 1 from rfl, Nat.and_two_pow_sub_one_eq_mod]
theorem hashN_snoc (h : Nat) (l : List UInt8) (c : UInt8) : hashN h (l ++ [c]) = (hashN h l ^^^ c.toNat) * 1099511628211 % 18446744073709551616 := by
  rw [hashN_app]
  rfl
set_option maxHeartbeats 2000000 in
theorem with_c (h : Nat) (hh : h < 18446744073709551616) (s : ByteArray) (hs : s.size ≤ 1000000) (w : World) :
    Calls Tryz.prog 67 #[.int .u64 ((h : Nat) : Int), .string s] w fun e w' => e = .returned (.int .u64 ((hashN h s.data.toList : Nat) : Int)) ∧ Below w.heap.size w w' := by
  have hcv := Lib.run_convert_string_bytes (P := Tryz.prog) w 9 78 5 s Tryz.underlying9 Tryz.underlying78 Tryz.underlying5
  have hcl := fun j (hj : j < s.size) => Lib.bytesWorld_cell w 5 s j hj
  have hbw := Lib.bytesWorld_below w 5 s
  obtain ⟨n, hn⟩ : ∃ n, s.size = n := ⟨_, rfl⟩
  have hl : s.data.toList.length = n := by rw [Array.length_toList]; exact hn
  obtain ⟨L, hL⟩ : ∃ L, s.data.toList = L := ⟨_, rfl⟩
  rw [hL] at hl hcl ⊢
  rw [hn] at hs hcv hcl
  generalize Lib.bytesWorld w 5 s = wb at hcv hcl hbw
  obtain ⟨cap, hcap⟩ : ∃ cap, grownCap w n 0 5 = cap := ⟨_, rfl⟩
  rw [hcap] at hcv
  have HCL := hid hcl
  have HBW := hid hbw
  have HL := hid hl
  clear hcl hbw hcap hn hL hl
  go_enter Tryz.func67, Tryz.ntmps67
  go_wp2_with fail
  go_loopw [0, 10] (fun hx ix wr => ∃ i : Nat, i ≤ n ∧ hx = .int .u64 ((hashN h (L.take i) : Nat) : Int) ∧ ix = .int .i64 ((i : Nat) : Int) ∧ wr = wb) (fun _ ix _ => n - (intOf ix).toNat)
  case atStart => exact ⟨0, by omega, by rw [List.take_zero]; rfl, rfl, rfl⟩
  case round =>
    obtain ⟨i, hi, rfl, rfl, rfl⟩ := hrel
    have hb := hashN_lt (L.take i) h hh
    rcases Nat.lt_or_ge i n with hlt | hge
    · have hin : decide (((i : Nat) : Int) < ((n : Nat) : Int)) = true := decide_eq_true (by omega)
      have hin' : ((i : Nat) : Int) < ((n : Nat) : Int) := by omega
      have hi0 : (0 : Int) ≤ ((i : Nat) : Int) := by omega
      have hiw : IntKind.i64.wrap (((i : Nat) : Int) + 1) = ((i + 1 : Nat) : Int) := (IntWalk.i64_in _ (by omega)).trans (by omega)
      have hc := HCL.out i hlt
      have hiL : i < L.length := by rw [HL.out]; exact hlt
      have hsn := hashN_snoc h (L.take i) L[i]
      have htk : L.take (i + 1) = L.take i ++ [L[i]] := by rw [List.take_add_one, List.getElem?_eq_getElem hiL]; rfl
      rw [← htk] at hsn
      rw [List.getD_eq_getElem?_getD, List.getElem?_eq_getElem hiL, Option.getD_some] at hc
      have hcb : L[i].toNat < 256 := L[i].toNat_lt
      obtain ⟨c, hcc⟩ : ∃ c, L[i].toNat = c := ⟨_, rfl⟩
      rw [hcc] at hc hsn hcb
      obtain ⟨x, hx⟩ : ∃ x, hashN h (L.take i) = x := ⟨_, rfl⟩
      rw [hx] at hsn hb
      rw [hx]
      have hxor := u64_xor x c hb (by omega)
      have hmul := mul_u64 (x ^^^ c)
      have hcu := wrap_natU c (by omega)
      obtain ⟨y, hy⟩ : ∃ y, (x ^^^ c) * 1099511628211 % 18446744073709551616 = y := ⟨_, rfl⟩
      rw [hy] at hsn hmul
      generalize x ^^^ c = xc at hxor hmul hy
      have HS := hid hsn
      clear hsn htk hcc hx hy
      go_wp2_with fail
      go_roundw
      case rel => exact ⟨i + 1, by omega, by rw [HS.out], rfl, trivial⟩
      case measure => simp only [intOf, Int.toNat_natCast]; omega
    · obtain rfl : i = n := by omega
      have hin : decide (((i : Nat) : Int) < ((i : Nat) : Int)) = false := decide_eq_false (by omega)
      have htk : L.take i = L := List.take_of_length_le (by have := HL.out; omega)
      rw [htk]
      go_wp2_with fail
      go_ret
      exact ⟨rfl, HBW.out⟩
end Go.Proofs.YtbcileppebpamaaGreatDoor
set_option linter.unusedSimpArgs false
set_option linter.unusedVariables false
namespace Go.Proofs.YtbcileppebpamaaGreatDoor
open Go Go.Shelf Go.Proofs
def lays160_ren : Go.Shelf.Ren := ⟨fun | 160 => 71 | 232 => 90 | 231 => 89 | 227 => 91 | 234 => 93 | 233 => 92 | 236 => 95 | 235 => 94 | 228 => 116 | 271 => 118 | 151 => 117 | 197 => 113 | 120 => 138 | 152 => 137 | 260 => 133 | 137 => 76 | 119 => 146 | 224 => 135 | 225 => 134 | 217 => 102 | 266 => 121 | n => n, fun | 9 => 9 | 4 => 4 | 3 => 3 | 5 => 5 | 117 => 154 | 116 => 153 | 0 => 0 | 124 => 157 | 21 => 21 | 105 => 169 | 46 => 160 | 119 => 202 | 139 => 205 | 138 => 204 | n => n, fun | 3 => 4 | 4 => 5 | n => n⟩
theorem lays160 : Go.Proofs.Lays.n160 Tryz.prog lays160_ren := {
  mixed := by kernel_rfl
  f119 := Tryz.func146.trans (congrArg some (by kernel_rfl))
  f120 := Tryz.func138.trans (congrArg some (by kernel_rfl))
  f137 := Tryz.func76.trans (congrArg some (by kernel_rfl))
  f151 := Tryz.func117.trans (congrArg some (by kernel_rfl))
  f152 := Tryz.func137.trans (congrArg some (by kernel_rfl))
  f160 := Tryz.func71.trans (congrArg some (by kernel_rfl))
  f197 := Tryz.func113.trans (congrArg some (by kernel_rfl))
  f217 := Tryz.func102.trans (congrArg some (by kernel_rfl))
  f224 := Tryz.func135.trans (congrArg some (by kernel_rfl))
  f225 := Tryz.func134.trans (congrArg some (by kernel_rfl))
  f227 := Tryz.func91.trans (congrArg some (by kernel_rfl))
  f228 := Tryz.func116.trans (congrArg some (by kernel_rfl))
  f231 := Tryz.func89.trans (congrArg some (by kernel_rfl))
  f232 := Tryz.func90.trans (congrArg some (by kernel_rfl))
  f233 := Tryz.func92.trans (congrArg some (by kernel_rfl))
  f234 := Tryz.func93.trans (congrArg some (by kernel_rfl))
  f235 := Tryz.func94.trans (congrArg some (by kernel_rfl))
  f236 := Tryz.func95.trans (congrArg some (by kernel_rfl))
  f260 := Tryz.func133.trans (congrArg some (by kernel_rfl))
  f266 := Tryz.func121.trans (congrArg some (by kernel_rfl))
  f271 := Tryz.func118.trans (congrArg some (by kernel_rfl))
  t0 := Tryz.underlying0
  a0 := Tryz.isAgg0
  z0 := Tryz.sizeOf0
  v0 := Tryz.zeroValue0
  t3 := Tryz.underlying3
  a3 := Tryz.isAgg3
  z3 := Tryz.sizeOf3
  v3 := Tryz.zeroValue3
  t4 := Tryz.underlying4
  a4 := Tryz.isAgg4
  z4 := Tryz.sizeOf4
  v4 := Tryz.zeroValue4
  t5 := Tryz.underlying5
  a5 := Tryz.isAgg5
  z5 := Tryz.sizeOf5
  v5 := Tryz.zeroValue5
  t9 := Tryz.underlying9
  a9 := Tryz.isAgg9
  z9 := Tryz.sizeOf9
  v9 := Tryz.zeroValue9
  t21 := Tryz.underlying21
  a21 := Tryz.isAgg21
  z21 := Tryz.sizeOf21
  v21 := Tryz.zeroValue21
  t46 := Tryz.underlying160
  a46 := Tryz.isAgg160
  z46 := Tryz.sizeOf160
  v46 := Tryz.zeroValue160
  t105 := Tryz.underlying169
  a105 := Tryz.isAgg169
  z105 := Tryz.sizeOf169
  v105 := Tryz.zeroValue169
  t116 := Tryz.underlying153
  a116 := Tryz.isAgg153
  z116 := Tryz.sizeOf153
  t117 := Tryz.underlying154
  a117 := Tryz.isAgg154
  z117 := Tryz.sizeOf154
  v117 := Tryz.zeroValue154
  t119 := Tryz.underlying202
  a119 := Tryz.isAgg202
  z119 := Tryz.sizeOf202
  t124 := Tryz.underlying157
  a124 := Tryz.isAgg157
  z124 := Tryz.sizeOf157
  v124 := Tryz.zeroValue157
  t138 := Tryz.underlying204
  a138 := Tryz.isAgg204
  z138 := Tryz.sizeOf204
  v138 := Tryz.zeroValue204
  t139 := Tryz.underlying205
  a139 := Tryz.isAgg205
  z139 := Tryz.sizeOf205
  v139 := Tryz.zeroValue205
  g3 := by kernel_rfl
  g4 := by kernel_rfl }
def lays105_ren : Go.Shelf.Ren := ⟨fun | 105 => 81 | 212 => 107 | 99 => 108 | 165 => 83 | 166 => 84 | 170 => 109 | 169 => 85 | 263 => 128 | 264 => 129 | 206 => 130 | 240 => 110 | 241 => 111 | 276 => 131 | 277 => 132 | n => n, fun | 9 => 9 | 3 => 3 | 4 => 4 | 20 => 20 | 0 => 0 | 46 => 160 | 109 => 165 | 5 => 5 | 72 => 145 | 76 => 147 | 51 => 182 | 146 => 183 | 53 => 81 | 148 => 185 | 70 => 143 | 37 => 78 | 75 => 83 | 127 => 168 | 164 => 187 | 80 => 118 | n => n, fun | n => n⟩
theorem lays105 : Go.Proofs.Lays.n105 Tryz.prog lays105_ren := {
  mixed := by kernel_rfl
  f99 := Tryz.func108.trans (congrArg some (by kernel_rfl))
  f105 := Tryz.func81.trans (congrArg some (by kernel_rfl))
  f165 := Tryz.func83.trans (congrArg some (by kernel_rfl))
  f166 := Tryz.func84.trans (congrArg some (by kernel_rfl))
  f169 := Tryz.func85.trans (congrArg some (by kernel_rfl))
  f170 := Tryz.func109.trans (congrArg some (by kernel_rfl))
  f206 := Tryz.func130.trans (congrArg some (by kernel_rfl))
  f212 := Tryz.func107.trans (congrArg some (by kernel_rfl))
  f240 := Tryz.func110.trans (congrArg some (by kernel_rfl))
  f241 := Tryz.func111.trans (congrArg some (by kernel_rfl))
  f263 := Tryz.func128.trans (congrArg some (by kernel_rfl))
  f264 := Tryz.func129.trans (congrArg some (by kernel_rfl))
  f276 := Tryz.func131.trans (congrArg some (by kernel_rfl))
  f277 := Tryz.func132.trans (congrArg some (by kernel_rfl))
  t0 := Tryz.underlying0
  a0 := Tryz.isAgg0
  z0 := Tryz.sizeOf0
  v0 := Tryz.zeroValue0
  t3 := Tryz.underlying3
  a3 := Tryz.isAgg3
  z3 := Tryz.sizeOf3
  v3 := Tryz.zeroValue3
  t4 := Tryz.underlying4
  a4 := Tryz.isAgg4
  z4 := Tryz.sizeOf4
  v4 := Tryz.zeroValue4
  t5 := Tryz.underlying5
  a5 := Tryz.isAgg5
  z5 := Tryz.sizeOf5
  v5 := Tryz.zeroValue5
  t9 := Tryz.underlying9
  a9 := Tryz.isAgg9
  z9 := Tryz.sizeOf9
  v9 := Tryz.zeroValue9
  t20 := Tryz.underlying20
  a20 := Tryz.isAgg20
  z20 := Tryz.sizeOf20
  v20 := Tryz.zeroValue20
  t37 := Tryz.underlying78
  a37 := Tryz.isAgg78
  z37 := Tryz.sizeOf78
  v37 := Tryz.zeroValue78
  t46 := Tryz.underlying160
  a46 := Tryz.isAgg160
  z46 := Tryz.sizeOf160
  v46 := Tryz.zeroValue160
  t51 := Tryz.underlying182
  a51 := Tryz.isAgg182
  z51 := Tryz.sizeOf182
  v51 := Tryz.zeroValue182
  t53 := Tryz.underlying81
  a53 := Tryz.isAgg81
  z53 := Tryz.sizeOf81
  v53 := Tryz.zeroValue81
  t70 := Tryz.underlying143
  a70 := Tryz.isAgg143
  z70 := Tryz.sizeOf143
  v70 := Tryz.zeroValue143
  t72 := Tryz.underlying145
  a72 := Tryz.isAgg145
  z72 := Tryz.sizeOf145
  v72 := Tryz.zeroValue145
  t75 := Tryz.underlying83
  a75 := Tryz.isAgg83
  z75 := Tryz.sizeOf83
  v75 := Tryz.zeroValue83
  t76 := Tryz.underlying147
  a76 := Tryz.isAgg147
  z76 := Tryz.sizeOf147
  v76 := Tryz.zeroValue147
  t109 := Tryz.underlying165
  a109 := Tryz.isAgg165
  z109 := Tryz.sizeOf165
  v109 := Tryz.zeroValue165
  t127 := Tryz.underlying168
  a127 := Tryz.isAgg168
  z127 := Tryz.sizeOf168
  v127 := Tryz.zeroValue168
  t146 := Tryz.underlying183
  a146 := Tryz.isAgg183
  z146 := Tryz.sizeOf183
  v146 := Tryz.zeroValue183
  t148 := Tryz.underlying185
  a148 := Tryz.isAgg185
  z148 := Tryz.sizeOf185
  v148 := Tryz.zeroValue185
  t164 := Tryz.underlying187
  a164 := Tryz.isAgg187
  z164 := Tryz.sizeOf187
  v164 := Tryz.zeroValue187 }
theorem Builder_Extra_105 : Builder.Extra Tryz.prog lays105_ren := {
  sizeBuilder := by kernel_rfl
  liesBuilder := by kernel_rfl
  t5 := Tryz.underlying5
  a5 := Tryz.isAgg5
  z5 := Tryz.sizeOf5
  v5 := Tryz.zeroValue5
  infoByte := by kernel_rfl
  cellsByte := by kernel_rfl
  sizeByte := by kernel_rfl
  neB5 := by decide }
open Go.RowKit Go.Lib in
/-- **strings.Repeat: count ≥ 0, the result within one allocation: count copies of s.** (LAID: no walk: one application.) -/
theorem strings_Repeat (s : ByteArray) (c : Nat) (w : World) (hc : c ≤ 9223372036854775807) (hlen : s.size * c ≤ 140737488355328) :
    Calls Tryz.prog 81 #[.string s, .int .i64 c] w fun e w' => e = .returned (.string ⟨(Lib.repeatL s.data.toList c).toArray⟩) ∧ Below w.heap.size w w' := Any.strings_Repeat lays105 Builder_Extra_105 s c w hc hlen
def lays156_ren : Go.Shelf.Ren := ⟨fun | 156 => 65 | 165 => 83 | 166 => 84 | 169 => 85 | 240 => 110 | 241 => 111 | 276 => 131 | 277 => 132 | n => n, fun | 31 => 22 | 9 => 9 | 3 => 3 | 4 => 4 | 0 => 0 | 20 => 20 | 72 => 145 | 76 => 147 | 70 => 143 | 37 => 78 | 75 => 83 | 127 => 168 | 164 => 187 | 5 => 5 | 80 => 118 | n => n, fun | n => n⟩
theorem lays156 : Go.Proofs.Lays.n156 Tryz.prog lays156_ren := {
  mixed := by kernel_rfl
  f156 := Tryz.func65.trans (congrArg some (by kernel_rfl))
  f165 := Tryz.func83.trans (congrArg some (by kernel_rfl))
  f166 := Tryz.func84.trans (congrArg some (by kernel_rfl))
  f169 := Tryz.func85.trans (congrArg some (by kernel_rfl))
  f240 := Tryz.func110.trans (congrArg some (by kernel_rfl))
  f241 := Tryz.func111.trans (congrArg some (by kernel_rfl))
  f276 := Tryz.func131.trans (congrArg some (by kernel_rfl))
  f277 := Tryz.func132.trans (congrArg some (by kernel_rfl))
  t0 := Tryz.underlying0
  a0 := Tryz.isAgg0
  z0 := Tryz.sizeOf0
  v0 := Tryz.zeroValue0
  t3 := Tryz.underlying3
  a3 := Tryz.isAgg3
  z3 := Tryz.sizeOf3
  v3 := Tryz.zeroValue3
  t4 := Tryz.underlying4
  a4 := Tryz.isAgg4
  z4 := Tryz.sizeOf4
  v4 := Tryz.zeroValue4
  t9 := Tryz.underlying9
  a9 := Tryz.isAgg9
  z9 := Tryz.sizeOf9
  v9 := Tryz.zeroValue9
  t20 := Tryz.underlying20
  a20 := Tryz.isAgg20
  z20 := Tryz.sizeOf20
  v20 := Tryz.zeroValue20
  t31 := Tryz.underlying22
  a31 := Tryz.isAgg22
  z31 := Tryz.sizeOf22
  v31 := Tryz.zeroValue22
  t37 := Tryz.underlying78
  a37 := Tryz.isAgg78
  z37 := Tryz.sizeOf78
  v37 := Tryz.zeroValue78
  t70 := Tryz.underlying143
  a70 := Tryz.isAgg143
  z70 := Tryz.sizeOf143
  v70 := Tryz.zeroValue143
  t72 := Tryz.underlying145
  a72 := Tryz.isAgg145
  z72 := Tryz.sizeOf145
  v72 := Tryz.zeroValue145
  t75 := Tryz.underlying83
  a75 := Tryz.isAgg83
  z75 := Tryz.sizeOf83
  v75 := Tryz.zeroValue83
  t76 := Tryz.underlying147
  a76 := Tryz.isAgg147
  z76 := Tryz.sizeOf147
  v76 := Tryz.zeroValue147
  t127 := Tryz.underlying168
  a127 := Tryz.isAgg168
  z127 := Tryz.sizeOf168
  v127 := Tryz.zeroValue168
  t164 := Tryz.underlying187
  a164 := Tryz.isAgg187
  z164 := Tryz.sizeOf187
  v164 := Tryz.zeroValue187 }
theorem Builder_Extra_156 : Builder.Extra Tryz.prog lays156_ren := {
  sizeBuilder := by kernel_rfl
  liesBuilder := by kernel_rfl
  t5 := Tryz.underlying5
  a5 := Tryz.isAgg5
  z5 := Tryz.sizeOf5
  v5 := Tryz.zeroValue5
  infoByte := by kernel_rfl
  cellsByte := by kernel_rfl
  sizeByte := by kernel_rfl
  neB5 := by decide }
open Go.RowKit in
/-- strings.Join: "Join concatenates the elements of its first argument to create a single string. The separator string sep is placed between elements in the resulting string.": HOWEVER MANY ELEMENTS. Below the heap's end the world is as it was. (LAID: no walk: one application.) -/
theorem strings_Join (bk o c : Nat) (xs : List ByteArray) (sep : ByteArray) (w : World) (hcells : ∀ (j : Nat) x, xs[j]? = some x → w.cell? ⟨bk, o + j, none⟩ = some (.string x)) (hbk : bk < w.heap.size) (hN : xs.length ≤ 140737488355328) (hcap : xs.length ≤ c) (hlen : (Lib.join (xs.map (·.data.toList)) sep.data.toList).length ≤ 140737488355328) :
    Calls Tryz.prog 65 #[.slice (some ⟨bk, o, none⟩) xs.length c, .string sep] w fun e w' => e = .returned (.string ⟨(Lib.join (xs.map (·.data.toList)) sep.data.toList).toArray⟩) ∧ Below w.heap.size w w' := Any.strings_Join lays156 Builder_Extra_156 bk o c xs sep w hcells hbk hN hcap hlen
def laysM171_ren : Go.Shelf.Ren := ⟨fun | 171 => 79 | 243 => 105 | 246 => 123 | 283 => 124 | 284 => 125 | 285 => 126 | 286 => 127 | 129 => 141 | 317 => 140 | 318 => 142 | 319 => 143 | 320 => 144 | 337 => 147 | 338 => 148 | n => n, fun | 3 => 3 | 9 => 9 | 2 => 2 | 4 => 4 | 171 => 177 | 0 => 0 | 53 => 81 | 37 => 78 | 5 => 5 | 173 => 180 | 212 => 198 | 51 => 182 | 20 => 20 | 213 => 199 | 46 => 160 | 232 => 209 | 233 => 210 | n => n, fun | 17 => 3 | 18 => 6 | 19 => 7 | n => n⟩
theorem laysM171 : Go.Proofs.LaysM.n171 Tryz.prog laysM171_ren := {
  mixed := by kernel_rfl
  f129 := Tryz.func141.trans (congrArg some (by kernel_rfl))
  f171 := Tryz.func79.trans (congrArg some (by kernel_rfl))
  f243 := Tryz.func105.trans (congrArg some (by kernel_rfl))
  f246 := Tryz.func123.trans (congrArg some (by kernel_rfl))
  f283 := Tryz.func124.trans (congrArg some (by kernel_rfl))
  f284 := Tryz.func125.trans (congrArg some (by kernel_rfl))
  f285 := Tryz.func126.trans (congrArg some (by kernel_rfl))
  f286 := Tryz.func127.trans (congrArg some (by kernel_rfl))
  f317 := Tryz.func140.trans (congrArg some (by kernel_rfl))
  f318 := Tryz.func142.trans (congrArg some (by kernel_rfl))
  f319 := Tryz.func143.trans (congrArg some (by kernel_rfl))
  f320 := Tryz.func144.trans (congrArg some (by kernel_rfl))
  f337 := Tryz.func147.trans (congrArg some (by kernel_rfl))
  f338 := Tryz.func148.trans (congrArg some (by kernel_rfl))
  t0 := Tryz.underlying0
  a0 := Tryz.isAgg0
  z0 := Tryz.sizeOf0
  v0 := Tryz.zeroValue0
  t2 := Tryz.underlying2
  a2 := Tryz.isAgg2
  z2 := Tryz.sizeOf2
  v2 := Tryz.zeroValue2
  t3 := Tryz.underlying3
  a3 := Tryz.isAgg3
  z3 := Tryz.sizeOf3
  v3 := Tryz.zeroValue3
  t4 := Tryz.underlying4
  a4 := Tryz.isAgg4
  z4 := Tryz.sizeOf4
  v4 := Tryz.zeroValue4
  t5 := Tryz.underlying5
  a5 := Tryz.isAgg5
  z5 := Tryz.sizeOf5
  v5 := Tryz.zeroValue5
  t9 := Tryz.underlying9
  a9 := Tryz.isAgg9
  z9 := Tryz.sizeOf9
  v9 := Tryz.zeroValue9
  t20 := Tryz.underlying20
  a20 := Tryz.isAgg20
  z20 := Tryz.sizeOf20
  v20 := Tryz.zeroValue20
  t37 := Tryz.underlying78
  a37 := Tryz.isAgg78
  z37 := Tryz.sizeOf78
  v37 := Tryz.zeroValue78
  t46 := Tryz.underlying160
  a46 := Tryz.isAgg160
  z46 := Tryz.sizeOf160
  v46 := Tryz.zeroValue160
  t51 := Tryz.underlying182
  a51 := Tryz.isAgg182
  z51 := Tryz.sizeOf182
  v51 := Tryz.zeroValue182
  t53 := Tryz.underlying81
  a53 := Tryz.isAgg81
  z53 := Tryz.sizeOf81
  v53 := Tryz.zeroValue81
  t171 := Tryz.underlying177
  a171 := Tryz.isAgg177
  z171 := Tryz.sizeOf177
  v171 := Tryz.zeroValue177
  t173 := Tryz.underlying180
  a173 := Tryz.isAgg180
  z173 := Tryz.sizeOf180
  v173 := Tryz.zeroValue180
  t212 := Tryz.underlying198
  a212 := Tryz.isAgg198
  z212 := Tryz.sizeOf198
  v212 := Tryz.zeroValue198
  t213 := Tryz.underlying199
  a213 := Tryz.isAgg199
  z213 := Tryz.sizeOf199
  t232 := Tryz.underlying209
  a232 := Tryz.isAgg209
  z232 := Tryz.sizeOf209
  v232 := Tryz.zeroValue209
  t233 := Tryz.underlying210
  a233 := Tryz.isAgg210
  z233 := Tryz.sizeOf210
  v233 := Tryz.zeroValue210
  g17 := by kernel_rfl
  g18 := by kernel_rfl
  g19 := by kernel_rfl
  i0 := by kernel_rfl
  i2 := by kernel_rfl
  i3 := by kernel_rfl
  i4 := by kernel_rfl
  i5 := by kernel_rfl
  i9 := by kernel_rfl
  i20 := by kernel_rfl
  i37 := by kernel_rfl
  i46 := by kernel_rfl
  i51 := by kernel_rfl
  i53 := by kernel_rfl
  i171 := by kernel_rfl
  i173 := by kernel_rfl
  i212 := by kernel_rfl
  i232 := by kernel_rfl
  i233 := by kernel_rfl
  m17 := by kernel_rfl
  m18 := by kernel_rfl
  m19 := by kernel_rfl }
open Go.RowKit Go.Sort Go.Lib in
/-- strconv.Itoa: "Itoa is equivalent to FormatInt(int64(i), 10).": i's DECIMAL NUMERAL ('Lib.itoa': a '-' where i is negative, then the digits), FOR EVERY int. The world behind the call: the world before it, new blocks behind the heap (the library's 'var a [24]byte'), draws. (LAID: no walk: one application.) -/
theorem strconv_Itoa (n : Int) (h0 : -9223372036854775808 ≤ n) (h1 : n ≤ 9223372036854775807) (w : World) (htab : Lib.TabIs Tryz.prog w "internal/strconv.uint64pow10" .u64 Lib.pow10Tab) :
    Calls Tryz.prog 79 #[.int .i64 n] w fun e w' => e = .returned (.string ⟨(Lib.itoa n).toArray⟩) ∧ ∃ k os, w' = grow (w.drewN k) os := Any.strconv_Itoa laysM171 n h0 h1 w htab
def laysNm215_ren : Go.Shelf.Ren := ⟨fun | 15 => 69 | n => n, fun | 22 => 72 | 3 => 3 | 4 => 4 | n => n, fun | n => n⟩
theorem laysNm215 : Go.Proofs.Lays2.n15 Tryz.prog laysNm215_ren := {
  mixed := by kernel_rfl
  f15 := Tryz.func69.trans (congrArg some (by kernel_rfl))
  t3 := Tryz.underlying3
  a3 := Tryz.isAgg3
  z3 := Tryz.sizeOf3
  v3 := Tryz.zeroValue3
  t4 := Tryz.underlying4
  a4 := Tryz.isAgg4
  z4 := Tryz.sizeOf4
  v4 := Tryz.zeroValue4
  t22 := Tryz.underlying72
  a22 := Tryz.isAgg72
  z22 := Tryz.sizeOf72
  v22 := Tryz.zeroValue72
  i3 := by kernel_rfl }
open Go.RowKit Go.Lib in
/-- slices.Clone at []int: "Clone returns a copy of the slice. The elements are copied using assignment, so this is a shallow clone. The result may have additional unused capacity. The result preserves the nilness of s.": OF A SLICE THAT IS NOT nil IT RETURNS A SLICE THAT IS NOT nil, OF THE SAME ELEMENTS, IN MEMORY OF THE CALL's OWN: in the how-to's words (6f): 'w'.ownsRow B e 1 v' n cells': v' begins at the head of a row among the blocks from B on (B: the heap's size at the call), not frozen, whose first cells are the elements · 'Below B w w'': below B all is as it was. The capacity is whatever the run-time gives. 'zs': what the cells behind the slice's address hold; 'zs.take n': its elements. (LAID: no walk: one application.) -/
theorem slices_Clone_int (b off n c : Nat) (zs : List Int) (w : World) (hz : n ≤ zs.length) (hbig : n * 8 ≤ 140737488355328) (hc : ∀ j, j < zs.length → w.cell? ⟨b, off + j, none⟩ = some (.int .i64 (zs.getD j 0))) :
    Calls Tryz.prog 69 #[.slice (some ⟨b, off, none⟩) n c] w fun e w' => ∃ v', e = .returned v' ∧ w'.ownsRow w.heap.size 3 1 v' n ((zs.take n).map (Value.int .i64)) ∧ v' ≠ .slice none 0 0 ∧ Below w.heap.size w w' := Any.slices_Clone_int laysNm215 b off n c zs w hz hbig hc
open Go.RowKit Go.Lib in
/-- The same at nil: nil comes back; the world is as it was. (LAID: no walk: one application.) -/
theorem slices_Clone_int_nil (n c : Nat) (w : World) :
    Calls Tryz.prog 69 #[.slice none n c] w fun e w' => e = .returned (.slice none 0 0) ∧ w' = w := Any.slices_Clone_int_nil laysNm215 n c w
open Go.RowKit Go.Lib in
/-- The same at a slice of length 0 that is not nil, WHATEVER ITS ADDRESS (no cell is asked for): a slice that is not nil and owns nothing comes back. (LAID: no walk: one application.) -/
theorem slices_Clone_int_zero (a : Addr) (c : Nat) (w : World) :
    Calls Tryz.prog 69 #[.slice (some a) 0 c] w fun e w' => ∃ v', e = .returned v' ∧ w'.ownsRow w.heap.size 3 1 v' 0 [] ∧ v' ≠ .slice none 0 0 ∧ Below w.heap.size w w' := Any.slices_Clone_int_zero laysNm215 a c w
end Go.Proofs.YtbcileppebpamaaGreatDoor
