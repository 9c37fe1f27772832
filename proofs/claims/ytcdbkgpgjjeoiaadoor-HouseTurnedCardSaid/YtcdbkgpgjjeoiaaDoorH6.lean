/- Slices of ties and of aspects that the call itself made: three cells each. -/
import Derived.Test.YtcdbkgpgjjeoiaaDoorSm
import Derived.Test.YtcdbkgpgjjeoiaaDoorH4
import Derived.OwnWalkIn
import Derived.Test.YtcdbkgpgjjeoiaaDoorH2
import Derived.Maps.OwnOps
import Derived.Maps.Views
import Derived.WalkArith
namespace Go.Proofs.YtcdbkgpgjjeoiaaDoor
open Go Go.RowKit
set_option maxRecDepth 100000

/-- The cells of a tie, or of an aspect. -/
def enc3 (t : Tie3) : List Value := [.int .i64 ((t.1 : Nat) : Int), .int .i64 ((t.2.1 + 1 : Nat) : Int), .int .i64 ((t.2.2 + 1 : Nat) : Int)]
def cells3 (ts : List Tie3) : List Value := ts.flatMap enc3
theorem cells3_len (ts : List Tie3) : (cells3 ts).length = ts.length * 3 := by
  induction ts with
  | nil => rfl
  | cons t ts ih =>
    have e : cells3 (t :: ts) = enc3 t ++ cells3 ts := rfl
    rw [e, List.length_append, ih]
    simp [enc3]
    omega
theorem cells3_snoc (ts : List Tie3) (t : Tie3) : cells3 (ts ++ [t]) = cells3 ts ++ enc3 t := by simp [cells3]
theorem cells3_get (ts : List Tie3) : ∀ (i j : Nat) (h : i < ts.length), j < 3 → (cells3 ts)[i * 3 + j]? = (enc3 ts[i])[j]? := by
  induction ts with
  | nil => intro i j h; exact absurd h (by simp)
  | cons t ts ih =>
    intro i j h hj
    have e : cells3 (t :: ts) = enc3 t ++ cells3 ts := rfl
    have el : (enc3 t).length = 3 := rfl
    rw [e]
    cases i with
    | zero =>
      rw [List.getElem?_append_left (by omega), Nat.zero_mul, Nat.zero_add]
      rfl
    | succ i =>
      rw [List.getElem?_append_right (by omega), el, show (i + 1) * 3 + j - 3 = i * 3 + j by omega]
      exact ih i j (by simpa using h) hj
/-- What the program's table says of a type of three numbers. -/
def Tri (T : TypeId) : Prop := (Tryd.prog.info? T).map (fun i => (i.zero, i.size, i.bytes)) = some (some (.agg #[.int .i64 0, .int .i64 0, .int .i64 0]), 3, 24)
theorem triTie : Tri 53 := by unfold Tri; kernel_rfl
theorem triAsp : Tri 56 := by unfold Tri; kernel_rfl
/-- A slice of triples that was made from block base on. -/
def Trs (T : TypeId) (w : World) (base : Nat) (v : Value) (ts : List Tie3) : Prop := w.ownsRow base T 3 v ts.length (cells3 ts)
/-- A slice that reads as a list of triples. -/
def ReadsT (w : World) (v : Value) (ts : List Tie3) : Prop :=
  (ts = [] ∧ v = .slice none 0 0) ∨ (∃ g c, v = .slice (some ⟨g, 0, none⟩) ts.length c ∧ g < w.heap.size ∧ ∀ j, j < ts.length * 3 → w.cell? ⟨g, j, none⟩ = (cells3 ts)[j]?)
theorem Trs.mono {T : TypeId} {w : World} {B B' : Nat} {v : Value} {ts : List Tie3} (h : Trs T w B v ts) (hB : B' ≤ B) : Trs T w B' v ts := by
  refine ⟨h.1, ?_⟩
  rcases h.2 with h2 | ⟨g, cap, cur, h3, h4, h5⟩
  · exact .inl h2
  · exact .inr ⟨g, cap, cur, h3, by omega, h5⟩
theorem Trs.below {T : TypeId} {w w' : World} {B : Nat} {v : Value} {ts : List Tie3} (h : Trs T w B v ts) (hb : Below w.heap.size w w') : Trs T w' B v ts := by
  refine ⟨h.1, ?_⟩
  rcases h.2 with h2 | ⟨g, cap, cur, h3, h4, h5, h6⟩
  · exact .inl h2
  · exact .inr ⟨g, cap, cur, h3, h4, heap_below hb h5 (heap_lt h5), h6⟩
theorem Trs.reads {T : TypeId} {w : World} {B : Nat} {v : Value} {ts : List Tie3} (h : Trs T w B v ts) : ReadsT w v ts := by
  rcases h.2 with ⟨h2, h3⟩ | ⟨g, cap, cur, h3, h4, h5, _, _, _, h7⟩
  · exact .inl ⟨List.eq_nil_of_length_eq_zero h3, h2⟩
  · refine .inr ⟨g, cap, h3, heap_lt h5, fun k hk => ?_⟩
    rw [cell_of_row _ _ k _ _ (0, 0) h5]
    have : (cur.toList.take (ts.length * 3))[k]? = (cells3 ts)[k]? := by rw [h7]
    rw [List.getElem?_take, if_pos (by omega)] at this
    rw [← Array.getElem?_toList, this]
theorem ReadsT.below {w w' : World} {v : Value} {ts : List Tie3} (h : ReadsT w v ts) (hb : Below w.heap.size w w') : ReadsT w' v ts := by
  rcases h with h | ⟨g, c, h1, h2, h3⟩
  · exact .inl h
  · exact .inr ⟨g, c, h1, Nat.lt_of_lt_of_le h2 hb.size, fun k hk => (hb.cell (p := ⟨g, k, none⟩) h2).trans (h3 k hk)⟩
theorem Trs.nil (T : TypeId) (w : World) (B : Nat) : Trs T w B (.slice none 0 0) [] := World.ownsRow_nil w B _ _

theorem row_form {w : World} {B : Nat} {e : TypeId} {k : Nat} {v : Value} {n : Nat} {xs : List Value} (h : w.ownsRow B e k v n xs) : ∃ a c, v = .slice a n c := by
  rcases h.2 with ⟨h2, h3⟩ | ⟨g, cap, cur, h3, _⟩
  · exact ⟨none, 0, by rw [h2, h3]⟩
  · exact ⟨_, _, h3⟩
theorem Trs.form {T : TypeId} {w : World} {B : Nat} {v : Value} {ts : List Tie3} (h : Trs T w B v ts) : ∃ a c, v = .slice a ts.length c := row_form h
/-- Append of one triple to a slice of the call's own. -/
theorem wp_append_tri {T SL : TypeId} (hT : Tri T) (hSL : Tryd.prog.underlying SL = some (.slice T)) {ops : Array Oper} {rest : List Oper} {o : Oper} {a : Act} {w : World} {Q : Exit → Act → World → Prop} (hgd : o.guard = none) (s x : Operand)
    (ho : o.op = .call { callee := .builtin .append, args := #[s, x], argTypes := #[SL, SL] }) (B : Nat) (v : Value) (ts : List Tie3) (hs : a.eval s = v) (hown : Trs T w B v ts)
    (t : Tie3) (g c : Nat) (hx : a.eval x = .slice (some ⟨g, 0, none⟩) 1 c) (hc : ∀ j u, (enc3 t)[j]? = some u → w.cell? ⟨g, j, none⟩ = some u) (hlen : ts.length < 1000000000) (hB : B ≤ w.heap.size)
    (h : ∀ v' w', Trs T w' B v' (ts ++ [t]) → w.grownBy w' v.ownBlock → wpList Tryd.prog ops Q rest (a.put o.dst v') w') : wpList Tryd.prog ops Q (o :: rest) a w := by
  obtain ⟨i0, hi, hz0, hz1, hz2⟩ := info_parts hT
  refine wpList_append_own w hgd s x SL ho B T i0 (.agg #[.int .i64 0, .int .i64 0, .int .i64 0]) 3 24 hSL hi hz0 hz1 hz2 rfl (by decide) v ts.length _ hs hown ⟨g, 0, none⟩ 1 c (enc3 t) hx rfl
    (fun j u hj => by
      have := hc j u hj
      rw [← this]
      show w.cell? ((⟨g, 0, none⟩ : Addr).add j) = _
      rw [show (⟨g, 0, none⟩ : Addr).add j = ⟨g, j, none⟩ from by simp [Addr.add]; omega]) (fun u hu => by
        unfold enc3 at hu
        simp only [List.mem_cons, List.not_mem_nil, or_false] at hu
        rcases hu with rfl | rfl | rfl <;> rfl) (by unfold maxLen; omega) (by omega) hB ?_
  intro v' w' h1 h2 _
  refine h v' w' ?_ h2
  unfold Trs
  rw [cells3_snoc, List.length_append]
  exact h1
theorem wpIn_append_tri {F : Fence} {n : Nat} {T SL : TypeId} (hT : Tri T) (hSL : Tryd.prog.underlying SL = some (.slice T)) {ops : Array Oper} {rest : List Oper} {o : Oper} {a : Act} {w : World} {Q : Exit → Act → World → Prop} (hgd : o.guard = none) (s x : Operand)
    (ho : o.op = .call { callee := .builtin .append, args := #[s, x], argTypes := #[SL, SL] }) (B : Nat) (v : Value) (ts : List Tie3) (hs : a.eval s = v) (hown : Trs T w B v ts)
    (t : Tie3) (g c : Nat) (hx : a.eval x = .slice (some ⟨g, 0, none⟩) 1 c) (hc : ∀ j u, (enc3 t)[j]? = some u → w.cell? ⟨g, j, none⟩ = some u) (hlen : ts.length < 1000000000) (hB : B ≤ w.heap.size)
    (h : ∀ v' w', Trs T w' B v' (ts ++ [t]) → w.grownBy w' v.ownBlock → wpListIn F n Tryd.prog ops Q rest (a.put o.dst v') w') : wpListIn F n Tryd.prog ops Q (o :: rest) a w := by
  obtain ⟨i0, hi, hz0, hz1, hz2⟩ := info_parts hT
  refine wpListIn_append_own w hgd s x SL ho B T i0 (.agg #[.int .i64 0, .int .i64 0, .int .i64 0]) 3 24 hSL hi hz0 hz1 hz2 rfl (by decide) v ts.length _ hs hown ⟨g, 0, none⟩ 1 c (enc3 t) hx rfl
    (fun j u hj => by
      have := hc j u hj
      rw [← this]
      show w.cell? ((⟨g, 0, none⟩ : Addr).add j) = _
      rw [show (⟨g, 0, none⟩ : Addr).add j = ⟨g, j, none⟩ from by simp [Addr.add]; omega]) (fun u hu => by
        unfold enc3 at hu
        simp only [List.mem_cons, List.not_mem_nil, or_false] at hu
        rcases hu with rfl | rfl | rfl <;> rfl) (by unfold maxLen; omega) (by omega) hB ?_
  intro v' w' h1 h2 _
  refine h v' w' ?_ h2
  unfold Trs
  rw [cells3_snoc, List.length_append]
  exact h1
/-- .. at one step of a region. -/
theorem wpO_append_tri {T SL : TypeId} (hT : Tri T) (hSL : Tryd.prog.underlying SL = some (.slice T)) {o : Oper} {a : Act} {w : World} {K : Act → World → Prop} {Q : Exit → Act → World → Prop} (s x : Operand)
    (ho : o.op = .call { callee := .builtin .append, args := #[s, x], argTypes := #[SL, SL] }) (B : Nat) (v : Value) (ts : List Tie3) (hs : a.eval s = v) (hown : Trs T w B v ts)
    (t : Tie3) (g c : Nat) (hx : a.eval x = .slice (some ⟨g, 0, none⟩) 1 c) (hc : ∀ j u, (enc3 t)[j]? = some u → w.cell? ⟨g, j, none⟩ = some u) (hlen : ts.length < 1000000000) (hB : B ≤ w.heap.size)
    (h : ∀ v' w', Trs T w' B v' (ts ++ [t]) → w.grownBy w' v.ownBlock → K (a.put o.dst v') w') : o.wp Tryd.prog a w K Q := by
  obtain ⟨i0, hi, hz0, hz1, hz2⟩ := info_parts hT
  refine wp_append_own w s x SL ho B T i0 (.agg #[.int .i64 0, .int .i64 0, .int .i64 0]) 3 24 hSL hi hz0 hz1 hz2 rfl (by decide) v ts.length _ hs hown ⟨g, 0, none⟩ 1 c (enc3 t) hx rfl
    (fun j u hj => by
      have := hc j u hj
      rw [← this]
      show w.cell? ((⟨g, 0, none⟩ : Addr).add j) = _
      rw [show (⟨g, 0, none⟩ : Addr).add j = ⟨g, j, none⟩ from by simp [Addr.add]; omega]) (fun u hu => by
        unfold enc3 at hu
        simp only [List.mem_cons, List.not_mem_nil, or_false] at hu
        rcases hu with rfl | rfl | rfl <;> rfl) (by unfold maxLen; omega) (by omega) hB ?_
  intro v' w' h1 h2 _
  refine h v' w' ?_ h2
  unfold Trs
  rw [cells3_snoc, List.length_append]
  exact h1
theorem wpO_append_int {o : Oper} {a : Act} {w : World} {K : Act → World → Prop} {Q : Exit → Act → World → Prop} (s x : Operand)
    (ho : o.op = .call { callee := .builtin .append, args := #[s, x], argTypes := #[25, 25] }) (B : Nat) (v : Value) (xs : List Int) (hs : a.eval s = v) (hown : Ints w B v xs)
    (m : Int) (g c : Nat) (hx : a.eval x = .slice (some ⟨g, 0, none⟩) 1 c) (hc : w.cell? ⟨g, 0, none⟩ = some (.int .i64 m)) (hlen : xs.length < 1000000000) (hB : B ≤ w.heap.size)
    (h : ∀ v' w', Ints w' B v' (xs ++ [m]) → w.grownBy w' v.ownBlock → K (a.put o.dst v') w') : o.wp Tryd.prog a w K Q := by
  obtain ⟨i0, hi, hz0, hz1, hz2⟩ := info_parts infoInt
  refine wp_append_own w s x 25 ho B 3 i0 (.int .i64 0) 1 8 Tryd.underlying25 hi hz0 hz1 hz2 rfl (by decide) v xs.length _ hs hown ⟨g, 0, none⟩ 1 c [.int .i64 m] hx rfl
    (fun j u hj => by
      obtain rfl : j = 0 := by
        cases j with
        | zero => rfl
        | succ j => simp at hj
      simp at hj; subst hj; exact hc) (fun u hu => by simp at hu; subst hu; rfl) (by unfold maxLen; omega) (by omega) hB ?_
  intro v' w' h1 h2 _
  refine h v' w' ?_ h2
  unfold Ints
  simpa using h1
/-- The cells of a triple that was laid. -/
theorem tri_new (t : Tie3) (w : World) (T : TypeId) (cs : List Value) (he : enc3 t = cs) : ∀ j u, (enc3 t)[j]? = some u → (w.alloc (.cells cs.toArray T)).cell? ⟨w.heap.size, j, none⟩ = some u := by
  intro j u hj
  subst he
  rw [cell_of_row _ _ j _ _ (0, 0) (heap_alloc_new w (.cells (enc3 t).toArray T))]
  simpa using hj
/-- Append of one int, within a fence. -/
theorem wpIn_append_int {F : Fence} {n : Nat} {ops : Array Oper} {rest : List Oper} {o : Oper} {a : Act} {w : World} {Q : Exit → Act → World → Prop} (hgd : o.guard = none) (s x : Operand)
    (ho : o.op = .call { callee := .builtin .append, args := #[s, x], argTypes := #[25, 25] }) (B : Nat) (v : Value) (xs : List Int) (hs : a.eval s = v) (hown : Ints w B v xs)
    (m : Int) (g c : Nat) (hx : a.eval x = .slice (some ⟨g, 0, none⟩) 1 c) (hc : w.cell? ⟨g, 0, none⟩ = some (.int .i64 m)) (hlen : xs.length < 1000000000) (hB : B ≤ w.heap.size)
    (h : ∀ v' w', Ints w' B v' (xs ++ [m]) → w.grownBy w' v.ownBlock → wpListIn F n Tryd.prog ops Q rest (a.put o.dst v') w') : wpListIn F n Tryd.prog ops Q (o :: rest) a w := by
  obtain ⟨i0, hi, hz0, hz1, hz2⟩ := info_parts infoInt
  refine wpListIn_append_own w hgd s x 25 ho B 3 i0 (.int .i64 0) 1 8 Tryd.underlying25 hi hz0 hz1 hz2 rfl (by decide) v xs.length _ hs hown ⟨g, 0, none⟩ 1 c [.int .i64 m] hx rfl
    (fun j u hj => by
      obtain rfl : j = 0 := by
        cases j with
        | zero => rfl
        | succ j => simp at hj
      simp at hj; subst hj; exact hc) (fun u hu => by simp at hu; subst hu; rfl) (by unfold maxLen; omega) (by omega) hB ?_
  intro v' w' h1 h2 _
  refine h v' w' ?_ h2
  unfold Ints
  simpa using h1
end Go.Proofs.YtcdbkgpgjjeoiaaDoor
/- The map of a sky: for each figure the set of its places; the row of a sky. -/
namespace Go.Proofs.YtcdbkgpgjjeoiaaDoor
open Go Go.RowKit Go.Maps
set_option maxRecDepth 100000

theorem figKeyed : Keyed Tryd.prog 22 := int_keyed Tryd.underlying22
theorem zeroUint (w : World) : (zeroValue 113).run Tryd.prog w = .ok (.int .u64 0) w := by kernel_rfl
theorem figWf (f : Nat) (hf : f < 16) : (Lit.int .i64 ((f : Nat) : Int)).wf = true := WalkArith.wf_i64 ⟨by omega, by omega⟩
theorem figKey (f : Nat) (hf : f < 16) : keyOf Tryd.prog 22 (.int .i64 ((f : Nat) : Int)) = some (.int .i64 ((f : Nat) : Int)) := keyOf_int_mk Tryd.underlying22 (figWf f hf)
theorem setWf (v : Nat) (hv : v < 18446744073709551616) : (Lit.int .u64 ((v : Nat) : Int)).wf = true := WalkArith.wf_u64 ⟨by omega, by omega⟩
/-- Block b is a map of at most n entries that gives F f for each figure f. -/
def SkyM (w : World) (b n : Nat) (F : Nat → Nat) : Prop :=
  ∃ D : DataW Unit, w.ownsMap Tryd.prog 22 (plainElem Tryd.prog 113) b n D ∧ ∀ f : Nat, f < 16 → D.atKey (.int .i64 ((f : Nat) : Int)) (.lit (.int .u64 0)) = .lit (.int .u64 ((F f : Nat) : Int))
theorem SkyM.made (w : World) : SkyM (w.alloc (.map #[] 0)) w.heap.size 0 (fun _ => 0) := ⟨_, World.ownsMap_made _ _ _ _, fun _ _ => rfl⟩
theorem SkyM.kept {w w' : World} {b n : Nat} {F : Nat → Nat} {row : Option Nat} (h : SkyM w b n F) (hg : w.grownBy w' row) (hne : some b ≠ row) : SkyM w' b n F := by
  obtain ⟨D, h1, h2⟩ := h
  exact ⟨D, h1.kept hg hne, h2⟩
theorem SkyM.lt {w : World} {b n : Nat} {F : Nat → Nat} (h : SkyM w b n F) : b < w.heap.size := by
  obtain ⟨D, h1, _⟩ := h
  exact h1.lt
theorem SkyM.block {w w' : World} {b n : Nat} {F : Nat → Nat} (h : SkyM w b n F) (hb : w'.heap[b]? = w.heap[b]?) : SkyM w' b n F := by
  obtain ⟨D, ⟨es, clock, h1, h3⟩, h2⟩ := h
  exact ⟨D, ⟨es, clock, hb.trans h1, h3⟩, h2⟩
theorem SkyM.below {w w' : World} {b n C : Nat} {F : Nat → Nat} (h : SkyM w b n F) (hb : Below C w w') (hC : b < C) : SkyM w' b n F := h.block (hb.block b hC)
theorem SkyM.congr {w : World} {b n : Nat} {F G : Nat → Nat} (h : SkyM w b n F) (hFG : ∀ f, f < 16 → F f = G f) : SkyM w b n G := by
  obtain ⟨D, h1, h2⟩ := h
  exact ⟨D, h1, fun f hf => by rw [h2 f hf, hFG f hf]⟩
/-- What the map gives. -/
theorem SkyM.look {w : World} {b n : Nat} {F : Nat → Nat} (h : SkyM w b n F) (f : Nat) (hf : f < 16) : (Instr.lookup 107 (.map (some b)) (.int .i64 ((f : Nat) : Int)) false).run Tryd.prog w = .ok (.int .u64 ((F f : Nat) : Int)) w := by
  obtain ⟨D, h1, h2⟩ := h
  obtain ⟨c, hrun, hat, _⟩ := h1.lookup_int figKeyed Tryd.underlying107 Tryd.underlying113 (zeroUint w) (figKey f hf)
  rw [h2 f hf] at hat
  injection hat with hat
  injection hat with _ hat
  rw [hrun, hat]
/-- The map behind a store. -/
theorem wp_store_sky {ops : Array Oper} {rest : List Oper} {o : Oper} {a : Act} {w : World} {Q : Exit → Act → World → Prop} (hg : o.guard = none) (m x y : Operand) (hop : o.op = Op.mapUpdate 107 m x y)
    (b n : Nat) (F : Nat → Nat) (hm : a.eval m = .map (some b)) (hown : SkyM w b n F) (hn : n < 1000) (f v : Nat) (hf : f < 16) (hv : v < 18446744073709551616) (hx : a.eval x = .int .i64 ((f : Nat) : Int)) (hy : a.eval y = .int .u64 ((v : Nat) : Int))
    (hK : ∀ w', SkyM w' b (n + 1) (fun g => if g = f then v else F g) → w.grownBy w' (some b) → wpList Tryd.prog ops Q rest (a.put o.dst undef) w') : wpList Tryd.prog ops Q (o :: rest) a w := by
  obtain ⟨D, h1, h2⟩ := hown
  refine wpList_mapUpdate_own w hg m x y 107 hop 22 113 figKeyed Tryd.underlying107 _ b n D hm h1 (by unfold maxLen; omega) _ _ _ hx hy (figKey f hf) _ [] (plainElem_int Tryd.underlying113 (setWf v hv)) ?_
  intro w' h3 h4
  refine hK w' ⟨_, h3, fun g hg => ?_⟩ h4
  show (D.put _ _).atKey _ _ = .lit (.int .u64 (((if g = f then v else F g) : Nat) : Int))
  by_cases e : g = f
  · subst e
    rw [if_pos rfl, atKey_put_same (by obtain ⟨es, clock, _, _, _, hD⟩ := h1; exact ⟨_, hD⟩) (show WideAt.IsKeyLit (.int .i64 ((g : Nat) : Int)) from trivial)]
  · rw [if_neg e, atKey_put_other (by intro e'; injection e' with _ e'; omega), h2 g hg]
/-- The cells of a sky. -/
def sky (h : Nat → Nat) (b : Nat) : Array Value := (irow 12 (cst h)).push (.map (some b))
@[simp] theorem sky_size (h : Nat → Nat) (b : Nat) : (sky h b).size = 13 := by simp [sky]
theorem sky_get (h : Nat → Nat) (b i : Nat) (hi : i < 12) : (sky h b)[i]? = some (.int .i64 ((h i : Nat) : Int)) := by
  unfold sky
  rw [Array.getElem?_push_lt (by simpa using hi), ← Array.getElem?_eq_getElem]
  exact irow_get _ _ _ hi
theorem sky_map (h : Nat → Nat) (b : Nat) : (sky h b)[12]? = some (.map (some b)) := by
  unfold sky
  have : (irow 12 (cst h)).size = 12 := by simp
  rw [Array.getElem?_push, if_pos this.symm]
theorem cell_sky {w : World} {g b : Nat} {h : Nat → Nat} {t : TypeId} (hg : w.heap[g]? = some (.cells (sky h b) t (0, 0))) (i : Nat) (hi : i < 12) : w.cell? ⟨g, i, none⟩ = some (.int .i64 ((h i : Nat) : Int)) := by
  rw [cell_of_row _ _ i _ _ (0, 0) hg, sky_get _ _ _ hi]
theorem cell_skym {w : World} {g b : Nat} {h : Nat → Nat} {t : TypeId} (hg : w.heap[g]? = some (.cells (sky h b) t (0, 0))) : w.cell? ⟨g, 12, none⟩ = some (.map (some b)) := by
  rw [cell_of_row _ _ 12 _ _ (0, 0) hg, sky_map]
/-- The places of a figure. -/
def onF (h : Nat → Nat) (k f : Nat) : Nat := setN (fun i => h i == f) k
theorem onF_step (h : Nat → Nat) (k : Nat) (g : Nat) : (if g = h k then onF h k g ||| 2 ^ k else onF h k g) = onF h (k + 1) g := by
  unfold onF
  apply Nat.eq_of_testBit_eq
  intro i
  by_cases e : g = h k
  · rw [if_pos e, Nat.testBit_or, setN_bit, setN_bit, Nat.testBit_two_pow]
    by_cases e2 : k = i
    · subst e2; simp [e]
    · have : (i < k) = (i < k + 1) := propext ⟨fun _ => by omega, fun _ => by omega⟩
      simp only [this, e2, decide_false, Bool.or_false]
  · rw [if_neg e, setN_bit, setN_bit]
    by_cases e2 : k = i
    · subst e2; simp [Ne.symm e]
    · have : (i < k) = (i < k + 1) := propext ⟨fun _ => by omega, fun _ => by omega⟩
      simp only [this]
end Go.Proofs.YtcdbkgpgjjeoiaaDoor
