/- Rows of rows of the call's own; regions that draw their order and yield known values. -/
import Derived.Test.YtmjnelkeiogdcaaMA
set_option linter.unusedSimpArgs false
set_option linter.unusedVariables false
namespace Go.Proofs.Ytmjnelkeiogdcaa
open Go Go.RowKit Go.Shelf
set_option maxRecDepth 100000

theorem puts_congr {vs vs' : Nat → Value} : ∀ (ds : List Tmp) (k : Nat) (a : Act), (∀ j, k ≤ j → j < k + ds.length → vs j = vs' j) → puts vs ds k a = puts vs' ds k a
  | [], _, _, _ => rfl
  | d :: ds, k, a, h => by
    rw [puts, puts, h k (Nat.le_refl _) (by simp), puts_congr ds (k + 1) _ fun j h1 h2 => h j (by omega) (by rw [List.length_cons]; omega)]
theorem grow_vals {P : Program} {id : Nat} {Q : Exit → Act → World → Prop} {a : Act} {w : World} {l : List Oper} (n : Nat) (ds : List Tmp) (vals : List Value) (hm : P.follows .mixedOrders = true) (hB : growB l.toArray n ds a.tmps.size = true)
    (hstep : ∀ j oj, j < n → l.toArray[j]? = some oj → ∀ a' w', Below w.heap.size w w' → (∀ t, t ∉ ds → a'.eval (.tmp t) = a.eval (.tmp t)) →
      (∀ e ∈ oj.after, Region.binds .any e = true → a'.eval (.tmp (ds.getD e.on 0)) = vals.getD e.on undef) →
      ∀ (K : Act → World → Prop), (∀ w'', Below w'.heap.size w' w'' → K (a'.put (some (ds.getD j 0)) (vals.getD j undef)) w'') → oj.wp P a' w' K Q)
    (htail : ∀ w', Below w.heap.size w w' → wpList P l.toArray Q (l.drop n) (puts (fun j => vals.getD j undef) ds 0 a) w') : (Code.region id l.toArray true).wp P Q a w := by
  have hB' := hB
  simp only [growB, Bool.and_eq_true, decide_eq_true_eq] at hB'
  have hlen := hB'.1.1.1.2
  refine grow_region n ds hm hB (fun j v _ => v = vals.getD j undef) (fun _ _ _ => False) (fun _ _ _ _ _ h => h) (fun _ _ _ _ _ h => h.elim)
    (fun j oj hj ho a' w' hb he hd K hK => hstep j oj hj ho a' w' hb he hd K fun w'' hb2 => hK _ w'' hb2 rfl fun b h => h.elim) (fun vs w' hb hD _ _ => ?_)
  rw [puts_congr (vs' := fun j => vals.getD j undef) ds 0 a fun j _ h2 => hD j (by omega)]
  exact htail w' hb
theorem exec_ixL {ev : Operand → Value} {o : Oper} {x y : Operand} {b n c i : Nat} {W : World} (ho : o.op = .indexAddr 33 x y) (hx : ev x = .slice (some ⟨b, 0, none⟩) n c) (hy : ev y = .int .i64 ((i : Nat) : Int)) (hi : i < n) :
    (execOp ev o).run Try.prog W = .ok (.value (.pointer (some ⟨b, i, none⟩))) W := by
  have h0 : ¬ ((i : Nat) : Int) < 0 := by omega
  have h1 : ((i : Nat) : Int) < ((n : Nat) : Int) := by omega
  simp [execOp, ho, hx, hy]
  go_simp
theorem infoRow : (Try.prog.info? 24).map (fun i => (i.zero, i.size, i.bytes)) = some (some (.slice none 0 0), 1, 24) := by kernel_rfl
/-- A row of rows of the call's own. -/
structure AO (w : World) (B : Nat) (v : Value) (L : List Value) (LL : List (List Int)) : Prop where
  row : w.ownsRow B 24 1 v L.length L
  len : L.length = LL.length
  each : ∀ i (h : i < L.length) (h' : i < LL.length), Ints w B L[i] LL[i]
theorem AO.below {w w' : World} {B : Nat} {v : Value} {L : List Value} {LL : List (List Int)} (h : AO w B v L LL) (hb : Below w.heap.size w w') : AO w' B v L LL :=
  ⟨⟨h.row.1, h.row.2.imp id fun ⟨g, cap, cur, h3, h4, h5, h6⟩ => ⟨g, cap, cur, h3, h4, heap_below hb h5 (heap_lt h5), h6⟩⟩, h.len, fun i hi hi' => (h.each i hi hi').below hb⟩
theorem AO.mono {w : World} {B B' : Nat} {v : Value} {L : List Value} {LL : List (List Int)} (h : AO w B v L LL) (hB : B' ≤ B) : AO w B' v L LL :=
  ⟨⟨h.row.1, h.row.2.imp id fun ⟨g, cap, cur, h3, h4, h5⟩ => ⟨g, cap, cur, h3, by omega, h5⟩⟩, h.len, fun i hi hi' => ints_mono (h.each i hi hi') hB⟩
theorem AO.made (w : World) (B : Nat) (hB : B ≤ w.heap.size) : AO (w.alloc (.cells #[] 24)) B (.slice (some ⟨w.heap.size, 0, none⟩) 0 0) [] [] :=
  ⟨World.ownsRow_made w #[] 0 hB (by decide) rfl, rfl, fun i h => by simp at h⟩
theorem AO.one (w : World) (B : Nat) (hB : B ≤ w.heap.size) (u : Value) (xs : List Int) (hu : Ints w B u xs) : AO (w.alloc (.cells #[u] 24)) B (.slice (some ⟨w.heap.size, 0, none⟩) 1 1) [u] [xs] := by
  obtain ⟨p, n, c, rfl⟩ := hu.slice
  refine ⟨⟨rfl, .inr ⟨w.heap.size, 1, #[.slice p n c], rfl, hB, heap_alloc_new w _, Nat.le_refl _, by decide, rfl, rfl⟩⟩, rfl, fun i h h' => ?_⟩
  obtain rfl : i = 0 := by simp at h; omega
  exact hu.below ((Below.refl _ _).alloc (Nat.le_refl _) _)
theorem AO.own {W : World} {B : Nat} {v : Value} {L : List Value} {LL : List (List Int)} (h : AO W B v L LL) : ∀ k, v.ownBlock = some k → B ≤ k ∧ ∃ cs, W.heap[k]? = some (.cells cs 24 (0, 0)) := fun k hk => by
  rcases h.row.2 with ⟨h3, _⟩ | ⟨g, cap, cur, h3, h4, h5, _⟩
  · rw [h3] at hk; cases hk
  · rw [h3] at hk
    have : g = k := by simpa [Value.ownBlock] using hk
    subst this
    exact ⟨h4, _, h5⟩
theorem AO.slice {W : World} {B : Nat} {v : Value} {L : List Value} {LL : List (List Int)} (h : AO W B v L LL) : ∃ p c, v = .slice p LL.length c := by
  rcases h.row.2 with ⟨h3, h4⟩ | ⟨g, cap, cur, h3, _⟩
  · exact ⟨none, 0, by rw [h3, ← h.len, h4]⟩
  · exact ⟨_, _, by rw [h3, h.len]⟩
theorem AO.elem {W : World} {B : Nat} {p : Option Addr} {n c : Nat} {L : List Value} {LL : List (List Int)} (h : AO W B (.slice p n c) L LL) {i : Nat} (hi : i < LL.length) : ∃ b u, p = some ⟨b, 0, none⟩ ∧ b < W.heap.size ∧ W.cell? ⟨b, i, none⟩ = some u ∧ Ints W B u LL[i] := by
  rcases h.row.2 with ⟨h3, h4⟩ | ⟨g, cap, cur, h3, h4, h5, _, _, _, h7⟩
  · rw [← h.len, h4] at hi; omega
  · injection h3 with e1 _ _
    have hi' : i < L.length := by rw [h.len]; exact hi
    refine ⟨g, L[i], e1, heap_lt h5, ?_, h.each i hi' hi⟩
    rw [cell_of_row _ _ i _ _ (0, 0) h5, ← List.getElem?_eq_getElem hi', ← h7, List.getElem?_take, if_pos (by omega), ← Array.getElem?_toList]
theorem wpO_app_row {o : Oper} {a : Act} {w : World} {K : Act → World → Prop} {Q : Exit → Act → World → Prop} (s x : Operand)
    (ho : o.op = .call { callee := .builtin .append, args := #[s, x], argTypes := #[33, 33] }) (B : Nat) (v : Value) (L : List Value) (LL : List (List Int)) (hs : a.eval s = v) (hown : AO w B v L LL)
    (u : Value) (xs : List Int) (hu : Ints w B u xs) (g c : Nat) (hx : a.eval x = .slice (some ⟨g, 0, none⟩) 1 c) (hc0 : w.cell? ⟨g, 0, none⟩ = some u) (hlen : LL.length < 1000000000) (hB : B ≤ w.heap.size)
    (h : ∀ v' w', AO w' B v' (L ++ [u]) (LL ++ [xs]) → w.grownBy w' v.ownBlock → K (a.put o.dst v') w') : o.wp Try.prog a w K Q := by
  obtain ⟨i0, hi, hz0, hz1, hz2⟩ := info_parts infoRow
  have hl := hown.len
  obtain ⟨v', w', hrun, r1, r2, r3⟩ := run_append_own (P := Try.prog) w B 33 o.type 24 i0 (.slice none 0 0) 1 24 Try.underlying33 hi hz0 hz1 hz2 rfl (by decide) v L.length _ hown.row ⟨g, 0, none⟩ 1 c [u] rfl
    (fun j q hj => by
      rcases j with _ | j
      · simp at hj; subst hj; exact hc0
      · simp at hj) (fun q hq => by
        obtain ⟨p, n, k, rfl⟩ := hu.slice
        simp at hq
        subst hq
        rfl) (by unfold maxLen; omega) (by omega) hB
  unfold Oper.wp execOp
  simp only [ho, resolve, invoke, builtin, Sem.run_bind, Sem.run_pure, Result.andThen_ok, List.map_toArray, List.map_cons, List.map_nil, hs, hx, hrun]
  have hkeep : ∀ {q : Value} {ys : List Int}, Ints w B q ys → Ints w' B q ys := fun {q ys} hq => hq.kept fun k ob hk hob => (r2.block k (heap_lt hob) fun e => by
    obtain ⟨_, cs, h1⟩ := hown.own k e.symm
    obtain ⟨_, cs', h2⟩ := hq.own k hk
    rw [h1] at h2
    cases h2).trans hob
  refine h v' w' ⟨?_, by simp [hl], fun i h1 h2 => ?_⟩ r2
  · rw [List.length_append]
    exact r1
  · rw [List.length_append] at h1 h2
    rcases Nat.lt_or_ge i L.length with hlt | hge
    · rw [List.getElem_append_left hlt, List.getElem_append_left (by omega)]
      exact hkeep (hown.each i hlt (by omega))
    · rw [List.getElem_append_right hge, List.getElem_append_right (by omega)]
      simp only [List.length_singleton] at h1
      have e1 : i - L.length = 0 := by omega
      have e2 : i - LL.length = 0 := by omega
      simp only [e1, e2, List.getElem_cons_zero]
      exact hkeep hu
/-- Only blocks that the row may have are written. -/
theorem AO.app_below {w w' : World} {B : Nat} {v : Value} {L : List Value} {LL : List (List Int)} (h : AO w B v L LL) (hg : w.grownBy w' v.ownBlock) (hB : B ≤ w.heap.size) : Below B w w' :=
  ⟨hg.os, hg.tape, hg.output, hg.size, fun k hk => hg.block k (by omega) (fun e => by have := (h.own k e.symm).1; omega)⟩
theorem Ints.app_below {w w' : World} {B : Nat} {v : Value} {xs : List Int} (h : Ints w B v xs) (hg : w.grownBy w' v.ownBlock) (hB : B ≤ w.heap.size) : Below B w w' :=
  ⟨hg.os, hg.tape, hg.output, hg.size, fun k hk => hg.block k (by omega) (fun e => by have := (h.own k e.symm).1; omega)⟩
/-- Numbers as the program has them. -/
def intL (L : List Nat) : List Int := L.map fun c => ((c : Nat) : Int)
def intLL (LL : List (List Nat)) : List (List Int) := LL.map intL
theorem intLL_len (LL : List (List Nat)) : (intLL LL).length = LL.length := by simp [intLL]
theorem intLL_get (LL : List (List Nat)) (i : Nat) (h : i < (intLL LL).length) (h' : i < LL.length) : (intLL LL)[i] = intL LL[i] := by simp [intLL]
theorem intLL_app (A B : List (List Nat)) : intLL (A ++ B) = intLL A ++ intLL B := by simp [intLL]
theorem intL_len (L : List Nat) : (intL L).length = L.length := by simp [intL]
end Go.Proofs.Ytmjnelkeiogdcaa
