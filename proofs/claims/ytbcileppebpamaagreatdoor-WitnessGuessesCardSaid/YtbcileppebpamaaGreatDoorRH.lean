/- A region that draws its order, whose head only yields values and lays memory: calls, loads and new boxes in whatever order, then the tail in the order of the text. -/
import Derived.Test.YtbcileppebpamaaGreatDoorQD
import Derived.StillTail
import Derived.Test.YtbcileppebpamaaGreatDoorRG
set_option linter.unusedSimpArgs false
set_option linter.unusedVariables false
namespace Go.Proofs.YtbcileppebpamaaGreatDoor
open Go Go.RowKit
set_option maxRecDepth 100000

/-- How many operations of the head are not done yet. -/
def cntU (listed : Array Bool) : Nat → Nat
  | 0 => 0
  | n + 1 => (if listed.getD n true = true then 0 else 1) + cntU listed n
theorem cntU_congr {l l' : Array Bool} : ∀ n, (∀ j, j < n → l.getD j true = l'.getD j true) → cntU l n = cntU l' n
  | 0, _ => rfl
  | n + 1, h => by rw [cntU, cntU, h n (by omega), cntU_congr n fun j hj => h j (by omega)]
theorem getD_set_same {l : Array Bool} {j : Nat} : (l.setIfInBounds j true).getD j true = true := by
  rw [Array.getD_eq_getD_getElem?, Array.getElem?_setIfInBounds]
  simp
  split <;> simp
theorem cntU_set {l : Array Bool} {j : Nat} (hu : l.getD j true = false) : ∀ n, j < n → cntU (l.setIfInBounds j true) n + 1 = cntU l n
  | n + 1, h => by
    rw [cntU, cntU]
    by_cases e : n = j
    · subst e
      rw [getD_set_same, hu, if_pos rfl, if_neg (by simp), cntU_congr n fun i hi => getD_set_ne true (by omega)]
      omega
    · rw [getD_set_ne true (by omega), Nat.add_assoc, cntU_set hu n (by omega)]
theorem cntU_zero {l : Array Bool} : ∀ n, cntU l n = 0 → ∀ j, j < n → l.getD j true = true
  | n + 1, h, j, hj => by
    rw [cntU] at h
    by_cases e : j = n
    · subst e
      apply Classical.byContradiction
      intro hn
      rw [if_neg hn] at h
      omega
    · exact cntU_zero n (by omega) j (by omega)
/-- The head is done, and nothing of the tail. -/
def headL (size n : Nat) : Array Bool := Array.ofFn (n := size) fun i => decide (i.val < n)
/-- Values are put into the slots of those operations that are done. -/
def putL (listed : Array Bool) (ds : List Tmp) (vs : Nat → Value) : Nat → Act → Act
  | 0, a => a
  | n + 1, a => if listed.getD n true = true then (putL listed ds vs n a).put (some (ds.getD n 0)) (vs n) else putL listed ds vs n a
/-- .. into all of them. -/
def puts (vs : Nat → Value) : List Tmp → Nat → Act → Act
  | [], _, a => a
  | d :: ds, k, a => puts vs ds (k + 1) (a.put (some d) (vs k))
theorem put_comm (a : Act) (d e : Tmp) (u v : Value) (h : d ≠ e) : (a.put (some d) u).put (some e) v = (a.put (some e) v).put (some d) u := by
  simp only [Act.put]
  rw [Array.setIfInBounds_comm _ _ h]
theorem putL_congr {l l' : Array Bool} {ds : List Tmp} {vs vs' : Nat → Value} (a : Act) : ∀ n, (∀ j, j < n → l.getD j true = l'.getD j true ∧ (l'.getD j true = true → vs j = vs' j)) → putL l ds vs n a = putL l' ds vs' n a
  | 0, _ => rfl
  | n + 1, h => by
    obtain ⟨h1, h2⟩ := h n (by omega)
    rw [putL, putL, h1, putL_congr a n fun j hj => h j (by omega)]
    split
    · rename_i e
      rw [h2 e]
    · rfl
def upd1 (vs : Nat → Value) (j : Nat) (v : Value) : Nat → Value := fun i => if i = j then v else vs i
theorem putL_set {l : Array Bool} {ds : List Tmp} {vs : Nat → Value} (a : Act) (v : Value) {j : Nat} (hu : l.getD j true = false) : ∀ n, j < n → (∀ i, i < n → i ≠ j → ds.getD i 0 ≠ ds.getD j 0) → (putL l ds vs n a).put (some (ds.getD j 0)) v = putL (l.setIfInBounds j true) ds (upd1 vs j v) n a
  | n + 1, h, hi => by
    by_cases e : n = j
    · subst e
      rw [putL, putL, hu, getD_set_same, if_neg (by simp), if_pos rfl]
      rw [putL_congr (l' := l.setIfInBounds n true) (vs' := upd1 vs n v) a n fun i hin => ⟨(getD_set_ne true (by omega)).symm, fun _ => by unfold upd1; rw [if_neg (by omega)]⟩]
      unfold upd1
      rw [if_pos rfl]
    · have ih := putL_set (vs := vs) a v hu n (by omega) fun i h1 h2 => hi i (by omega) h2
      rw [putL, putL, getD_set_ne true (by omega)]
      split
      · rw [put_comm _ _ _ _ _ (hi n (by omega) (by omega)), ih]
        unfold upd1
        rw [if_neg (by omega)]
      · exact ih
theorem puts_snoc (vs : Nat → Value) : ∀ (ds : List Tmp) (d : Tmp) (k : Nat) (a : Act), puts vs (ds ++ [d]) k a = (puts vs ds k a).put (some d) (vs (k + ds.length))
  | [], d, k, a => rfl
  | e :: ds, d, k, a => by
    rw [List.cons_append, puts, puts, puts_snoc vs ds d (k + 1), List.length_cons]
    congr 2
    omega
theorem putL_all {l : Array Bool} (ds : List Tmp) (vs : Nat → Value) (a : Act) : ∀ n, n ≤ ds.length → (∀ j, j < n → l.getD j true = true) → putL l ds vs n a = puts vs (ds.take n) 0 a
  | 0, _, _ => by simp [putL, puts]
  | n + 1, hn, h => by
    rw [putL, if_pos (h n (by omega)), putL_all ds vs a n (by omega) fun j hj => h j (by omega), List.take_add_one, List.getElem?_eq_getElem (by omega), Option.toList_some, puts_snoc]
    rw [List.getD_eq_getElem?_getD, List.getElem?_eq_getElem (by omega), Option.getD_some, List.length_take]
    congr 2
    omega
theorem eval_put (a : Act) (d t : Tmp) (v : Value) : (a.put (some d) v).eval (.tmp t) = if d = t ∧ d < a.tmps.size then v else a.eval (.tmp t) := by
  simp only [Act.put, Act.eval, Array.getD_eq_getD_getElem?, Array.getElem?_setIfInBounds]
  by_cases h : d = t
  · subst h
    by_cases h2 : d < a.tmps.size
    · simp [h2]
    · simp [h2]
  · simp [h]
theorem size_putL (l : Array Bool) (ds : List Tmp) (vs : Nat → Value) (a : Act) : ∀ n, (putL l ds vs n a).tmps.size = a.tmps.size
  | 0 => rfl
  | n + 1 => by
    rw [putL]
    split
    · simp only [Act.put, Array.size_setIfInBounds]; exact size_putL l ds vs a n
    · exact size_putL l ds vs a n
theorem eval_putL (l : Array Bool) (ds : List Tmp) (vs : Nat → Value) (a : Act) : ∀ n, n ≤ ds.length → (∀ d ∈ ds, d < a.tmps.size) →
    (∀ t, (∀ j, j < n → ds.getD j 0 ≠ t) → (putL l ds vs n a).eval (.tmp t) = a.eval (.tmp t)) ∧
    ((∀ i j, i < n → j < n → ds.getD i 0 = ds.getD j 0 → i = j) → ∀ j, j < n → l.getD j true = true → (putL l ds vs n a).eval (.tmp (ds.getD j 0)) = vs j)
  | 0, _, _ => ⟨fun t _ => rfl, fun _ j hj => by omega⟩
  | n + 1, hn, hd => by
    obtain ⟨h1, h2⟩ := eval_putL l ds vs a n (by omega) hd
    have hm : ds.getD n 0 ∈ ds := by
      rw [List.getD_eq_getElem?_getD, List.getElem?_eq_getElem (by omega)]
      exact List.getElem_mem _
    constructor
    · intro t ht
      rw [putL]
      split
      · rw [eval_put, if_neg (fun h => ht n (by omega) h.1)]
        exact h1 t fun j hj => ht j (by omega)
      · exact h1 t fun j hj => ht j (by omega)
    · intro hinj j hj hlj
      by_cases e : j = n
      · subst e
        rw [putL, if_pos hlj, eval_put, if_pos ⟨rfl, by rw [size_putL]; exact hd _ hm⟩]
      · rw [putL]
        have h3 := h2 (fun i k hi hk he => hinj i k (by omega) (by omega) he) j (by omega) hlj
        split
        · rw [eval_put, if_neg (fun h => e (hinj n j (by omega) (by omega) h.1).symm)]
          exact h3
        · exact h3
/-- What can be checked of the head. -/
def growB (ops : Array Oper) (n : Nat) (ds : List Tmp) (size : Nat) : Bool :=
  decide (n < ops.size) && Region.sinkB .any ops n && Region.chainB .any ops n && Region.seqB .any ops (ops.size - n) n (headL ops.size n) && decide (ds.length = n) &&
  (List.range n).all (fun j => match ops[j]? with
    | some o => o.guard.isNone && decide (o.dst = some (ds.getD j 0)) && o.after.all (fun e => !Region.binds .any e || decide (e.on < j))
    | none => false) &&
  ds.all (fun d => decide (d < size)) && (List.range n).all (fun i => (List.range n).all fun j => decide (i = j) || decide (ds.getD i 0 ≠ ds.getD j 0))
section
variable {P : Program} {ops : Array Oper}
/-- What is known while the head is under way. -/
structure Grown (n : Nat) (ds : List Tmp) (D : Nat → Value → World → Prop) (blk : Nat → Value → Nat → Prop) (w0 : World) (a0 : Act) (listed : Array Bool) (a : Act) (w : World) (vs : Nat → Value) : Prop where
  bel : Below w0.heap.size w0 w
  act : a = putL listed ds vs n a0
  done : ∀ j, j < n → listed.getD j true = true → D j (vs j) w
  apart : ∀ i j b, i < n → j < n → i ≠ j → listed.getD i true = true → listed.getD j true = true → blk i (vs i) b → ¬ blk j (vs j) b
  new : ∀ i b, i < n → listed.getD i true = true → blk i (vs i) b → w0.heap.size ≤ b
theorem grow_any {n : Nat} {ds : List Tmp} {Q' : Exit → Act → World → Prop} (D : Nat → Value → World → Prop) (blk : Nat → Value → Nat → Prop) (w0 : World) (a0 : Act) (hB : growB ops n ds a0.tmps.size = true)
    (hmono : ∀ j v w w', Below w.heap.size w w' → D j v w → D j v w')
    (hblk : ∀ j v w b, D j v w → blk j v b → b < w.heap.size)
    (hstep : ∀ j oj, j < n → ops[j]? = some oj → ∀ a w, Below w0.heap.size w0 w → (∀ t, t ∉ ds → a.eval (.tmp t) = a0.eval (.tmp t)) →
      (∀ e ∈ oj.after, Region.binds .any e = true → D e.on (a.eval (.tmp (ds.getD e.on 0))) w) →
      ∀ (K : Act → World → Prop), (∀ v w', Below w.heap.size w w' → D j v w' → (∀ b, blk j v b → w.heap.size ≤ b) → K (a.put (some (ds.getD j 0)) v) w') → oj.wp P a w K Q')
    (g : Nat) (_ : g = ops.size - n)
    (htail : ∀ vs w', Below w0.heap.size w0 w' → (∀ j, j < n → D j (vs j) w') → (∀ i j b, i < n → j < n → i ≠ j → blk i (vs i) b → ¬ blk j (vs j) b) → (∀ i b, i < n → blk i (vs i) b → w0.heap.size ≤ b) →
      wpAny P .any ops Q' g (headL ops.size n) (puts vs ds 0 a0) w') :
    ∀ (f : Nat) (listed : Array Bool) (a : Act) (w : World) (vs : Nat → Value), HeadInv .any ops n listed → cntU listed n = f → Grown n ds D blk w0 a0 listed a w vs → wpAny P .any ops Q' (f + g) listed a w := by
  simp only [growB, Bool.and_eq_true, decide_eq_true_eq, List.all_eq_true, List.mem_range] at hB
  obtain ⟨⟨⟨⟨⟨⟨⟨hn, hs⟩, hc⟩, hseq⟩, hlen⟩, hops⟩, hds⟩, hinj0⟩ := hB
  have hop : ∀ j, j < n → ∃ o, ops[j]? = some o ∧ o.guard = none ∧ o.dst = some (ds.getD j 0) ∧ ∀ e ∈ o.after, Region.binds .any e = true → e.on < j := by
    intro j hj
    have h := hops j hj
    cases ho : ops[j]? with
    | none => rw [ho] at h; cases h
    | some o =>
      rw [ho] at h
      simp only [Bool.and_eq_true, decide_eq_true_eq, Option.isNone_iff_eq_none, Array.all_eq_true_iff_forall_mem, Bool.or_eq_true, Bool.not_eq_true'] at h
      refine ⟨o, rfl, h.1.1, h.1.2, fun e he hb => ?_⟩
      rcases h.2 e he with h3 | h3
      · rw [hb] at h3; cases h3
      · exact h3
  have hinj : ∀ i j, i < n → j < n → ds.getD i 0 = ds.getD j 0 → i = j := fun i j hi hj he => by
    have h := hinj0 i hi j hj
    simp only [Bool.or_eq_true, decide_eq_true_eq] at h
    exact h.resolve_right fun h2 => h2 he
  intro f
  induction f with
  | zero =>
    intro listed a w vs inv hcnt hG
    have hall := cntU_zero n hcnt
    have hl : listed = headL ops.size n := by
      apply Array.ext
      · rw [inv.size]; simp [headL]
      · intro i h1 h2
        have h3 : i < ops.size := by rw [← inv.size]; exact h1
        have h4 : listed[i] = listed.getD i true := by rw [Array.getD_eq_getD_getElem?, Array.getElem?_eq_getElem h1]; rfl
        simp only [headL, Array.getElem_ofFn]
        rw [h4]
        rcases Nat.lt_or_ge i n with h | h
        · rw [hall i h, decide_eq_true h]
        · rw [inv.tail i h h3, decide_eq_false (by omega)]
    rw [Nat.zero_add, hG.act, putL_all ds vs a0 n (by omega) hall, List.take_of_length_le (by omega), hl]
    exact htail vs w hG.bel (fun j hj => hG.done j hj (hall j hj)) (fun i j b hi hj hij => hG.apart i j b hi hj hij (hall i hi) (hall j hj)) (fun i b hi => hG.new i b hi (hall i hi))
  | succ f ih =>
    intro listed a w vs inv hcnt hG
    rw [show f + 1 + g = (f + g) + 1 by omega]
    -- an operation that is ready
    have hex : ∃ j, j < n ∧ listed.getD j true = false := by
      apply Classical.byContradiction
      intro hno
      have : ∀ m, m ≤ n → cntU listed m = 0 := fun m => by
        induction m with
        | zero => intro _; rfl
        | succ m ihm =>
          intro hm
          rw [cntU, ihm (by omega)]
          cases hv : listed.getD m true with
          | true => rfl
          | false => exact absurd ⟨m, by omega, hv⟩ hno
      rw [this n (Nat.le_refl _)] at hcnt
      cases hcnt
    have hun : ∃ j, j < n ∧ listed.getD j true = false ∧ ∀ i, i < j → listed.getD i true = true := by
      obtain ⟨j0, h1, h2⟩ := hex
      have : ∀ m, m ≤ j0 → (∃ j, j < n ∧ listed.getD j true = false ∧ ∀ i, i < j → listed.getD i true = true) ∨ ∀ i, i < m → listed.getD i true = true := fun m => by
        induction m with
        | zero => exact fun _ => .inr fun i hi => by omega
        | succ m ihm =>
          intro hm
          rcases ihm (by omega) with h | h
          · exact .inl h
          · cases hv : listed.getD m true with
            | true => exact .inr fun i hi => by by_cases e : i = m; (rw [e]; exact hv); exact h i (by omega)
            | false => exact .inl ⟨m, by omega, hv, h⟩
      rcases this j0 (Nat.le_refl _) with h | h
      · exact h
      · exact ⟨j0, h1, h2, h⟩
    have fd : ∀ {i}, i < n → listed.getD i true = true → listed.getD i false = true := fun {i} hi h => by
      have hlt : i < listed.size := by rw [inv.size]; omega
      rw [Array.getD_eq_getD_getElem?, Array.getElem?_eq_getElem hlt] at h ⊢
      exact h
    refine ⟨fun h0 => ?_, fun j hj => ?_⟩
    · obtain ⟨j, h1, h2, h3⟩ := hun
      obtain ⟨o, ho, _, _, ha⟩ := hop j h1
      have : j ∈ Region.ready .any ops listed := mem_ready.2 ⟨h2, o, ho, fun e he hb => fd (by have := ha e he hb; omega) (h3 _ (ha e he hb))⟩
      rw [h0] at this
      cases this
    · have hjn : j < n := by
        apply Classical.byContradiction
        intro hno
        obtain ⟨i, h1, h2⟩ := hex
        exact tail_waits hs hc hn inv (n - i) i rfl h1 h2 j (by omega) hj
      obtain ⟨hu, o', ho', haf⟩ := mem_ready.1 hj
      obtain ⟨o, ho, hgd, hdst, ha⟩ := hop j hjn
      obtain rfl : o' = o := Option.some.inj (ho'.symm.trans ho)
      unfold wpOp
      simp only [ho]
      rw [if_pos (by simp [Region.wanted, hgd])]
      obtain ⟨e1, e2⟩ := eval_putL listed ds vs a0 n (by omega) (fun d hd => by simpa using hds d hd)
      refine .inl (hstep j o' hjn ho a w hG.bel (fun t ht => ?_) (fun e he hb => ?_) _ fun v w' hb hD hnew => ?_)
      · rw [hG.act]
        refine e1 t fun i hi h => ht ?_
        rw [← h, List.getD_eq_getElem?_getD, List.getElem?_eq_getElem (by omega)]
        exact List.getElem_mem _
      · have h1 := ha e he hb
        have h2 : listed.getD e.on true = true := by
          have h3 := haf e he hb
          have hlt : e.on < listed.size := by rw [inv.size]; omega
          rw [Array.getD_eq_getD_getElem?, Array.getElem?_eq_getElem hlt] at h3 ⊢
          exact h3
        rw [hG.act, e2 hinj e.on (by omega) h2]
        exact hG.done e.on (by omega) h2
      · refine ih (listed.setIfInBounds j true) _ w' (upd1 vs j v) (inv.set hj hjn) (by have := cntU_set hu n hjn; omega) ⟨?_, ?_, fun i hi hl => ?_, fun i k b hi hk hik hli hlk => ?_, fun i b hi hl => ?_⟩
        · exact hG.bel.trans (hb.mono hG.bel.size)
        · rw [hG.act]
          exact putL_set a0 v hu n hjn fun i hi hne he => hne (hinj i j hi hjn he)
        · unfold upd1
          by_cases e : i = j
          · subst e; rw [if_pos rfl]; exact hD
          · rw [if_neg e]
            rw [getD_set_ne true (fun h => e h.symm)] at hl
            exact hmono _ _ _ _ hb (hG.done i hi hl)
        · unfold upd1
          by_cases e1 : i = j
          · subst e1
            rw [if_pos rfl, if_neg (fun h => hik h.symm)]
            rw [getD_set_ne true hik] at hlk
            intro hb1 hb2
            have h1 := hnew b hb1
            have h2 := hblk _ _ _ _ (hG.done k hk hlk) hb2
            omega
          · rw [if_neg e1]
            rw [getD_set_ne true (fun h => e1 h.symm)] at hli
            by_cases e2 : k = j
            · subst e2
              rw [if_pos rfl]
              intro hb1 hb2
              have h1 := hnew b hb2
              have h2 := hblk _ _ _ _ (hG.done i hi hli) hb1
              omega
            · rw [if_neg e2]
              rw [getD_set_ne true (fun h => e2 h.symm)] at hlk
              exact hG.apart i k b hi hk hik hli hlk
        · unfold upd1
          by_cases e : i = j
          · subst e
            rw [if_pos rfl]
            intro hb1
            have := hnew b hb1
            have := hG.bel.size
            omega
          · rw [if_neg e]
            rw [getD_set_ne true (fun h => e h.symm)] at hl
            exact hG.new i b hi hl
end
/-- The whole region. -/
theorem grow_region {P : Program} {id : Nat} {Q : Exit → Act → World → Prop} {a : Act} {w : World} {l : List Oper} (n : Nat) (ds : List Tmp) (hm : P.follows .mixedOrders = true) (hB : growB l.toArray n ds a.tmps.size = true)
    (D : Nat → Value → World → Prop) (blk : Nat → Value → Nat → Prop)
    (hmono : ∀ j v w w', Below w.heap.size w w' → D j v w → D j v w')
    (hblk : ∀ j v w b, D j v w → blk j v b → b < w.heap.size)
    (hstep : ∀ j oj, j < n → l.toArray[j]? = some oj → ∀ a' w', Below w.heap.size w w' → (∀ t, t ∉ ds → a'.eval (.tmp t) = a.eval (.tmp t)) →
      (∀ e ∈ oj.after, Region.binds .any e = true → D e.on (a'.eval (.tmp (ds.getD e.on 0))) w') →
      ∀ (K : Act → World → Prop), (∀ v w'', Below w'.heap.size w' w'' → D j v w'' → (∀ b, blk j v b → w'.heap.size ≤ b) → K (a'.put (some (ds.getD j 0)) v) w'') → oj.wp P a' w' K Q)
    (htail : ∀ vs w', Below w.heap.size w w' → (∀ j, j < n → D j (vs j) w') → (∀ i j b, i < n → j < n → i ≠ j → blk i (vs i) b → ¬ blk j (vs j) b) → (∀ i b, i < n → blk i (vs i) b → w.heap.size ≤ b) →
      wpList P l.toArray Q (l.drop n) (puts vs ds 0 a) w') : (Code.region id l.toArray true).wp P Q a w := by
  have hB' := hB
  simp only [growB, Bool.and_eq_true, decide_eq_true_eq] at hB'
  obtain ⟨⟨⟨⟨⟨⟨⟨hn, hs⟩, hc⟩, hseq⟩, hlen⟩, _⟩, _⟩, _⟩ := hB'
  refine region_any hm ?_
  have hd0 : Below w.heap.size w w.drew := ⟨rfl, rfl, rfl, Nat.le_refl _, fun _ _ => rfl⟩
  have hsz : w.drew.heap.size = w.heap.size := rfl
  have hdl : (l.drop n).length = l.toArray.size - n := by simp
  have inv0 : HeadInv .any l.toArray n (Array.replicate l.toArray.size false) :=
    ⟨by simp, fun j oj _ hl => (by rw [getD_replicate_false] at hl; cases hl), fun t _ ht => getD_in (by simpa using ht) (getD_replicate_false _ _)⟩
  have hrep : ∀ m, m ≤ n → cntU (Array.replicate l.toArray.size false) m = m := fun m => by
    induction m with
    | zero => intro _; rfl
    | succ m ih =>
      intro hm
      have h0 : (Array.replicate l.toArray.size false).getD m true = false := by
        rw [Array.getD_eq_getD_getElem?, Array.getElem?_replicate, if_pos (by omega)]
        rfl
      rw [cntU, ih (by omega), h0, if_neg (by simp)]
      omega
  have hfalse : ∀ j, j < n → (Array.replicate l.toArray.size false).getD j true = false := fun j hj => by
    rw [Array.getD_eq_getD_getElem?, Array.getElem?_replicate, if_pos (by omega)]
    rfl
  have hput0 : ∀ m, m ≤ n → putL (Array.replicate l.toArray.size false) ds (fun _ => undef) m a = a := fun m => by
    induction m with
    | zero => intro _; rfl
    | succ m ih => intro hm; rw [putL, hfalse m (by omega), if_neg (by simp), ih (by omega)]
  have h := grow_any (P := P) (ops := l.toArray) (n := n) (ds := ds) (Q' := Q) D blk w.drew a hB hmono hblk
    (fun j oj hj hoj a' w' hb he hdep K hK => hstep j oj hj hoj a' w' (hd0.trans hb) he hdep K hK) (l.drop n).length hdl
    (fun vs w' hb hD hap hnw => wpAny_of_seq (l.drop n) n _ _ w' (fun j => by simp [List.getElem?_drop]) (by rw [hdl]; exact hseq) (htail vs w' (hd0.trans hb) hD hap hnw))
    n (Array.replicate l.toArray.size false) a w.drew (fun _ => undef) inv0 (hrep n (Nat.le_refl _))
    ⟨Below.refl _ _, (hput0 n (Nat.le_refl _)).symm, fun j hj hl => (by rw [hfalse j hj] at hl; cases hl), fun i j b hi _ _ hl => (by rw [hfalse i hi] at hl; cases hl), fun i b hi hl => (by rw [hfalse i hi] at hl; cases hl)⟩
  rwa [hdl, show n + (l.toArray.size - n) = l.toArray.size by omega] at h
end Go.Proofs.YtbcileppebpamaaGreatDoor
/- A range over an iterator whose body leaves in its first round: the iterator may change whatever it has laid itself. -/
namespace Go.Proofs.YtbcileppebpamaaGreatDoor
open Go Go.RowKit
set_option maxRecDepth 100000

section
variable {F : Fence} {n : Nat} {P : Program} {α : Type}
/-- What is asked of the iterator. -/
def SeqOne (F : Fence) (n : Nat) (P : Program) (g : Nat) (lb : Array Value) (encs : α → Array Value) (Ok : α → World → Prop) (End : Prop) (w : World) : Prop :=
  ∀ (l : Nat) (Jx : α → World → Prop) (W : World), Below w.heap.size w W → (∀ x, Abd W.heap.size (Jx x)) →
    (∀ x V, Below W.heap.size W V → Ok x V → YieldAt F (n - 1) P l (encs x) V fun e W' => e = .returned (.bool false) ∧ Jx x W' ∧ KeptS (fun _ => False) V W' ∧ ∀ k r, W.heap.size ≤ k → V.heap[k]? = some (.loop r) → W'.heap[k]? = some (.loop r)) →
    CallsIn F n P g (#[.func (.yield l) #[] #[]] ++ lb) W fun e W' => (∃ v, e = .returned v) ∧ ((End ∧ Below W.heap.size W W') ∨ ∃ x, Jx x W')
/-- The law outside a round. -/
theorem rg_first {g : Operand} {ps : Array Tmp} {assign body : Code} {Q : Exit → Act → World → Prop} {a : Act} {w : World}
    (hro : F.round = none) (h1 : 1 ≤ n) {gf : Nat} {lb : Array Value} (hg : a.eval g = .func (.func gf) #[] lb) (hFg : F.fn gf) (eg : ∀ args w, (callFunc gf args).run P w = .ok (.enter gf args) w)
    {encs : α → Array Value} {Ok : α → World → Prop} {End : Prop} (hseq : SeqOne F (n - 1) P gf lb encs Ok End w) (hps : ∀ x, (encs x).size = ps.size)
    (Ix : Code → α → World → Prop) (hIx : ∀ c x, Abd w.heap.size (Ix c x)) (hOk : ∀ x, Abd w.heap.size (Ok x)) {A : α → Act}
    (hassign : ∀ (l : Nat) (x : α) (W : World) (K : Act → World → Prop), Below w.heap.size w W → Ok x W → (∀ a', a' = A x → K a' W) →
      assign.wpIn (F.inRound l) (n - 1 - 1) P (Exit.then K (fun _ _ _ => False)) { tmps := (ps.zip (encs x)).foldl (fun t (p, v) => t.setIfInBounds p v) a.tmps, defers := [] } W)
    (hbody : ∀ (l : Nat) (x : α) (W : World), w.heap.size ≤ l → (∃ r, W.heap[l]? = some (.loop r)) → Below w.heap.size w W → Ok x W → body.wpIn (F.inRound l) (n - 1 - 1) P (rgPost l (fun _ => False) (fun (_ : List α) _ => False) (fun c xs W' => ∃ x, xs = [x] ∧ Ix c x W') [x] W) (A x) W)
    (hdone : ∀ (D : Nat) (W : World), w.heap.size ≤ D → End → Below w.heap.size w W → W.heap[D]? = some (.deferred (some [])) → Q .normal { a with defers := { target := .collected D, args := #[] } :: a.defers } W)
    (hstop : ∀ (D : Nat) (c : Code) (x : α) (W : World), w.heap.size ≤ D → Ix c x W → W.heap[D]? = some (.deferred (some [])) → c.wpIn F n P Q { a with defers := { target := .collected D, args := #[] } :: a.defers } W) :
    (Code.rangeFunc g ps assign body).wpIn F n P Q a w := by
  refine wpIn_rangeFunc ?_
  intro fn hfn
  rw [hro]
  obtain ⟨rec, hrec⟩ : ∃ rec : LoopState → Option Code → Loop, rec = fun st pe => { state := st, pending := pe, fn := fn, tmps := a.tmps, params := ps, assign := assign, body := body, defers := w.heap.size } := ⟨_, rfl⟩
  obtain ⟨W1, hW1⟩ : ∃ W1, (w.alloc (.deferred (some []))).alloc (.loop (rec .ready none)) = W1 := ⟨_, rfl⟩
  have hL1 : W1.heap[w.heap.size + 1]? = some (.loop (rec .ready none)) := by
    rw [← hW1]; have := World.alloc_heap_new (w.alloc (.deferred (some []))) (.loop (rec .ready none)); rwa [World.size_alloc] at this
  have hK1 : W1.heap[w.heap.size]? = some (.deferred (some [])) := by
    rw [← hW1]; exact (Below.heap_alloc _ _ _ (by simp)).trans (World.alloc_heap_new w _)
  have hb1 : Below w.heap.size w W1 := by
    rw [← hW1]; exact ((Below.refl _ w).alloc (Nat.le_refl _) _).alloc (by simp) _
  have hlt1 := (Array.getElem?_eq_some_iff.1 hL1).1
  refine ⟨w.heap.size + 1, [{ target := .collected w.heap.size, args := #[] }], W1, { target := .fn (.func gf) lb, args := #[.func (.yield (w.heap.size + 1)) #[] #[]] }, W1, gf,
    #[.func (.yield (w.heap.size + 1)) #[] #[]] ++ lb, W1, ?_, ?_, ?_, ?_, fun _ => h1, ?_⟩
  · rw [← hW1, hrec]; exact run_enterLoop_outer _ _ _ _ _
  · simp only [resolve, hg]
    simp [go_sem]
  · intro f' hf'; simp [Target.leads] at hf'; subst hf'; exact hFg
  · simp [invoke, go_sem, eg]
  · have keep : ∀ (W W' : World) (k : Nat) (o : Obj), W.heap[k]? = some o → Below W.heap.size W W' → W'.heap[k]? = some o := fun W W' k o h hb => (hb.block k (Array.getElem?_eq_some_iff.1 h).1).trans h
    refine (hseq (w.heap.size + 1)
      (fun x W => ∃ c, Ix c x W ∧ W.heap[w.heap.size + 1]? = some (.loop (rec .done (some c))) ∧ W.heap[w.heap.size]? = some (.deferred (some [])))
      W1 hb1 (fun x => Abd.ex fun c => ((hIx c x).mono hb1.size).and ((Abd.loopAt _ _ hlt1 _).and (Abd.dfr _ _ (by omega) _))) ?_).mono ?_
    · rintro x V hV hok
      have hl := keep _ _ _ _ hL1 hV
      have hk := keep _ _ _ _ hK1 hV
      have hI : ([] : List α) = [] ∧ Below w.heap.size w V := ⟨rfl, hb1.trans (hV.mono hb1.size)⟩
      refine YieldAt.mono (rg_round (n := n - 1 - 1) (P := P) (S := fun _ _ => False) (Ok := fun _ x W => Ok x W) (I := fun pre V => pre = [] ∧ Below w.heap.size w V) (Ix := fun c xs W' => ∃ x, xs = [x] ∧ Ix c x W') (Ax := fun x a' _ => a' = A x) hfn (Nat.le_succ _) hps
        (fun pre => (Abd.pure _ _).and (Abd.belowOf (Nat.le_refl _) (Nat.le_refl _))) (fun c pre => Abd.ex fun x => (Abd.pure _ _).and (hIx c x)) (fun _ x => hOk x) (fun _ _ => Abd.pure _ _)
        (fun l pre x W K hi ho hK => hassign l x W K hi.2 ho fun a' ha => hK a' W (Below.refl _ _) ha)
        (fun l pre x a' W hl hr hi ho ha => by
          obtain ⟨rfl, hi⟩ := hi
          subst ha
          refine wpIn_mono (hbody l x W (by omega) hr hi ho) ?_
          intro e a2 W2 hp
          cases e with
          | normal => exact hp.2.2.elim
          | _ => exact hp)
        [] x V hI hok hrec hl) ?_
      rintro e W' (⟨he, ⟨⟨h2, _⟩, _⟩, _⟩ | ⟨he, ⟨c, ⟨y, hy, h2⟩, h3⟩, h5, h6⟩)
      · simp at h2
      · have : x = y := by simpa using hy
        subst this
        exact ⟨he, ⟨c, h2, h3, h5.dfr _ _ hk⟩, h5, fun k r hk' ho => h6 k r (by omega) ho⟩
    · rintro e W2 ⟨⟨v, rfl⟩, (⟨hE, hB⟩ | ⟨x, c, hi, hl, hk⟩)⟩
      · have hl := keep _ _ _ _ hL1 hB
        have hk := keep _ _ _ _ hK1 hB
        exact ⟨none, _, by have := run_endLoop (P := P) hl (by rw [hrec]; simp); rw [hrec] at this; exact this, hdone _ _ (Nat.le_refl _) hE ((Abd.belowOf (B := w.heap.size) (Nat.le_refl _) (Nat.le_refl _)).turn _ _ _ _ (by omega) (hb1.trans (hB.mono hb1.size)) hl) ((World.putObj_heap_other (by omega)).trans hk)⟩
      · exact ⟨some c, _, by have := run_endLoop (P := P) hl (by rw [hrec]; simp); rw [hrec] at this; exact this, hstop _ c x _ (Nat.le_refl _) ((hIx c x).turn _ _ _ _ (by omega) hi hl) ((World.putObj_heap_other (by omega)).trans hk)⟩
end
end Go.Proofs.YtbcileppebpamaaGreatDoor
