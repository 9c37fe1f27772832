/- The law HandTurned. -/
import Derived.Test.YtmjnelkeiogdcaaJU
import Derived.Test.YtmjnelkeiogdcaaPE
import Derived.Test.YtmjnelkeiogdcaaRH
import Derived.StillTailTactics
import Derived.Deep.CutRange
set_option linter.unusedSimpArgs false
set_option linter.unusedVariables false
namespace Go.Proofs.Ytmjnelkeiogdcaa
open Go Go.RowKit Go.Shelf
set_option maxRecDepth 100000

/-- The weights of any hand, or the error. -/
def WtR (R : RH) (en : Nat) (v : Value) (gp : Nat) (W : World) : Prop :=
  (en = 2 ∧ okR R = false ∧ v = .slice none 0 0) ∨ (en = 8 ∧ Val (toH R) ∧ rawOf (toH R) = R ∧ ¬ dnH (toH R) ≤ 1000000000000000 ∧ v = .slice none 0 0) ∨
  (en = 0 ∧ Val (toH R) ∧ rawOf (toH R) = R ∧ dnH (toH R) ≤ 1000000000000000 ∧ ∃ ob, v = .slice (some ⟨ob, 0, none⟩) (outsN (toH R)) (outsN (toH R)) ∧ gp ≤ ob ∧ W.heap[ob]? = some (.cells (irow (outsN (toH R)) (cst (wqH (toH R)))) 3 (0, 0)))
theorem wtsR_c (R : RH) (f c : Value) (W : World) (h1 : ReadsF W f R.faces) (h2 : ReadsA W c R.cards) (hf : R.faces.length ≤ 1000) (hc : R.cards.length ≤ 1000) :
    Calls Try.prog 14 #[.agg (handR R f c)] W fun e w' => ∃ v en, e = .returned (.tuple #[v, .int .i64 ((en : Nat) : Int)]) ∧ WtR R en v W.heap.size w' ∧ Below W.heap.size W w' := by
  cases hok : okR R with
  | false =>
    exact (callsIn_wide.1 (Weights_no R hok f c W.heap.size W (RawAt.came h1 h2) hf hc)).mono (by
      rintro e w' ⟨rfl, hb⟩
      exact ⟨_, 2, rfl, .inl ⟨rfl, hok, rfl⟩, hb⟩)
  | true =>
    obtain ⟨hV, hr⟩ := Val.of hok
    have h := Weights_in 24 (by omega) W.heap.size (toH R) hV f c W (by rw [hr]; exact RawAt.came h1 h2)
    rw [← handR_of, hr] at h
    exact (callsIn_wide.1 h).mono (by
      rintro e w' ⟨hb, ⟨hd, ob, h3, rfl, h4⟩ | ⟨hd, rfl⟩⟩
      · exact ⟨_, 0, rfl, .inr (.inr ⟨rfl, hV, hr, hd, ob, rfl, h3, h4⟩), hb⟩
      · exact ⟨_, 8, rfl, .inr (.inl ⟨rfl, hV, hr, hd, rfl⟩), hb⟩)
/-- The three copies, in whatever order they are made. -/
def D4 (gp : Nat) (R : RH) (fv cv : Value) : Nat → Value → World → Prop
  | 0, v, _ => v = .agg (handR R fv cv)
  | 2, v, _ => v = .agg (handR R fv cv)
  | 4, v, _ => v = .agg (handR R fv cv)
  | 1, v, w => ∃ f c, v = .agg (handR R f c) ∧ FO w gp f R.faces ∧ Ints w gp c R.cards
  | 3, v, w => ∃ f c, v = .agg (handR R f c) ∧ FO w gp f R.faces ∧ Ints w gp c R.cards
  | 5, v, w => ∃ f c, v = .agg (handR R f c) ∧ FO w gp f R.faces ∧ Ints w gp c R.cards
  | 6, v, w => ∃ b, v = .pointer (some ⟨b, 0, none⟩) ∧ w.heap[b]? = some (.cells #[.int .i64 0, .int .i64 0, .slice none 0 0, .int .i64 0, .int .i64 0, .int .i64 0, .int .i64 0, .slice none 0 0] 26 (0, 0))
  | 7, v, w => ∃ b, v = .pointer (some ⟨b, 0, none⟩) ∧ w.heap[b]? = some (.cells #[.int .i64 0, .int .i64 0, .slice none 0 0, .int .i64 0, .int .i64 0, .int .i64 0, .int .i64 0, .slice none 0 0] 26 (0, 0))
  | 8, v, w => ∃ b, v = .pointer (some ⟨b, 0, none⟩) ∧ w.heap[b]? = some (.cells #[.int .i64 0, .int .i64 0, .slice none 0 0, .int .i64 0, .int .i64 0, .int .i64 0, .int .i64 0, .slice none 0 0] 26 (0, 0))
  | _, _, _ => True
def hblk (v : Value) (b : Nat) : Prop := ∃ (R : RH) (f c : Value), v = .agg (handR R f c) ∧ (f.ownBlock = some b ∨ c.ownBlock = some b)
def blk4 : Nat → Value → Nat → Prop
  | 1, v, b => hblk v b
  | 3, v, b => hblk v b
  | 5, v, b => hblk v b
  | 6, v, b => v = .pointer (some ⟨b, 0, none⟩)
  | 7, v, b => v = .pointer (some ⟨b, 0, none⟩)
  | 8, v, b => v = .pointer (some ⟨b, 0, none⟩)
  | _, _, _ => False
theorem own_mono {gp : Nat} {R : RH} {v : Value} {w w' : World} (hb : Below w.heap.size w w') (h : ∃ f c, v = .agg (handR R f c) ∧ FO w gp f R.faces ∧ Ints w gp c R.cards) : ∃ f c, v = .agg (handR R f c) ∧ FO w' gp f R.faces ∧ Ints w' gp c R.cards := by
  obtain ⟨f, c, h1, h2, h3⟩ := h
  exact ⟨f, c, h1, h2.below hb, h3.below hb⟩
theorem D4.mono {gp : Nat} {R : RH} {fv cv : Value} (j : Nat) (v : Value) (w w' : World) (hb : Below w.heap.size w w') (h : D4 gp R fv cv j v w) : D4 gp R fv cv j v w' := by
  match j, h with
  | 0, h => exact h
  | 2, h => exact h
  | 4, h => exact h
  | 1, h => exact own_mono hb h
  | 3, h => exact own_mono hb h
  | 5, h => exact own_mono hb h
  | 6, h => obtain ⟨b, h1, h2⟩ := h; exact ⟨b, h1, heap_below hb h2 (heap_lt h2)⟩
  | 7, h => obtain ⟨b, h1, h2⟩ := h; exact ⟨b, h1, heap_below hb h2 (heap_lt h2)⟩
  | 8, h => obtain ⟨b, h1, h2⟩ := h; exact ⟨b, h1, heap_below hb h2 (heap_lt h2)⟩
  | _ + 9, _ => trivial
theorem hblk_eq {R : RH} {f c : Value} {b : Nat} (h : hblk (.agg (handR R f c)) b) : f.ownBlock = some b ∨ c.ownBlock = some b := by
  obtain ⟨R', f', c', e, h⟩ := h
  injection e with e
  have e2 := congrArg (fun (x : Array Value) => x[2]?) e
  have e7 := congrArg (fun (x : Array Value) => x[7]?) e
  have e2' : f = f' := by simpa [handR, handV] using e2
  have e7' : c = c' := by simpa [handR, handV] using e7
  rw [e2', e7']
  exact h
theorem own_lt {gp : Nat} {R : RH} {v : Value} {w : World} {b : Nat} (h : ∃ f c, v = .agg (handR R f c) ∧ FO w gp f R.faces ∧ Ints w gp c R.cards) (hb : hblk v b) : b < w.heap.size := by
  obtain ⟨f, c, rfl, h2, h3⟩ := h
  rcases hblk_eq hb with h4 | h4
  · obtain ⟨_, cs, h5⟩ := h2.own b h4; exact heap_lt h5
  · obtain ⟨_, cs, h5⟩ := h3.own b h4; exact heap_lt h5
theorem D4.lt {gp : Nat} {R : RH} {fv cv : Value} (j : Nat) (v : Value) (w : World) (b : Nat) (h : D4 gp R fv cv j v w) (hb : blk4 j v b) : b < w.heap.size := by
  match j, h, hb with
  | 1, h, hb => exact own_lt h hb
  | 3, h, hb => exact own_lt h hb
  | 5, h, hb => exact own_lt h hb
  | 6, h, hb => obtain ⟨b', h1, h2⟩ := h; rw [show v = _ from hb] at h1; cases h1; exact heap_lt h2
  | 7, h, hb => obtain ⟨b', h1, h2⟩ := h; rw [show v = _ from hb] at h1; cases h1; exact heap_lt h2
  | 8, h, hb => obtain ⟨b', h1, h2⟩ := h; rw [show v = _ from hb] at h1; cases h1; exact heap_lt h2
/-- One operation. -/
theorem wpO_val {P : Program} {o : Oper} {a : Act} {w w' : World} {K : Act → World → Prop} {Q : Exit → Act → World → Prop} (v : Value) (h : (execOp a.eval o).run P w = .ok (.value v) w') (hK : K (a.put o.dst v) w') : o.wp P a w K Q := by
  unfold Oper.wp
  rw [h]
  exact hK
theorem wpO_call {P : Program} {o : Oper} {a : Act} {w : World} {K : Act → World → Prop} {Q : Exit → Act → World → Prop} (f : FuncId) (args : Array Value) (h : (execOp a.eval o).run P w = .ok (.enter f args) w) (hc : Calls P f args w fun e w' => ∃ v, e = .returned v ∧ K (a.put o.dst v) w') : o.wp P a w K Q := by
  unfold Oper.wp
  rw [h, Oper.upon_enter]
  refine hc.mono fun e w' ⟨v, he, hK⟩ => ?_
  subst he
  exact hK
theorem exec_own {ev : Operand → Value} {o : Oper} {x : Operand} {v : Value} {W : World} (ho : o.op = .call { callee := .value (.func 15), args := #[x], argTypes := #[26] }) (hf : ev (.func 15) = .func (.func 15) #[] #[]) (hx : ev x = v) :
    (execOp ev o).run Try.prog W = .ok (.enter 15 #[v]) W := by
  simp [execOp, ho, hx, resolve, hf]
  go_simp
theorem exec_allocH {ev : Operand → Value} {o : Oper} {W : World} (ho : o.op = .alloc 26) : (execOp ev o).run Try.prog W = .ok (.value (.pointer (some ⟨W.heap.size, 0, none⟩))) (W.alloc (.cells #[.int .i64 0, .int .i64 0, .slice none 0 0, .int .i64 0, .int .i64 0, .int .i64 0, .int .i64 0, .slice none 0 0] 26)) := by
  simp [execOp, ho]
  go_simp
theorem ownsRow_set {W : World} {B : Nat} {e : TypeId} {size q n cap m : Nat} {xs : List Value} (h : W.ownsRow B e size (.slice (some ⟨q, 0, none⟩) n cap) m xs) (k : Nat) (hk : k < m * size) (u : Value) :
    (W.setCell ⟨q, k, none⟩ u).ownsRow B e size (.slice (some ⟨q, 0, none⟩) n cap) m (xs.set k u) ∧ B ≤ q ∧ ∃ cur, W.heap[q]? = some (.cells cur e (0, 0)) ∧ k < cur.size ∧ cur[k]? = xs[k]? := by
  obtain ⟨h1, h2⟩ := h
  rcases h2 with ⟨h2, _⟩ | ⟨g, cap', cur, h3, h4, h5, h6, h7, h8, h9⟩
  · cases h2
  · injection h3 with e1 e2 e3
    injection e1 with e1
    injection e1 with e1 _ _
    subst e1
    subst e2
    subst e3
    have hkc : k < cur.size := by rw [h8]; exact Nat.lt_of_lt_of_le hk (Nat.mul_le_mul_right _ h6)
    refine ⟨⟨by rw [List.length_set]; exact h1, .inr ⟨q, cap, cur.setIfInBounds k u, rfl, h4, heap_setCell_same W q k _ _ _ h5, h6, h7, by simpa using h8, ?_⟩⟩, h4, cur, h5, hkc, ?_⟩
    · rw [Array.toList_setIfInBounds, ← h9, List.take_set]
    · rw [← h9, List.getElem?_take, if_pos hk, Array.getElem?_toList]
theorem fcells_set : ∀ (fs : List (Int × Int)) (i : Nat), i < fs.length → ∀ x y : Int, fcells (fs.set i (x, y)) = ((fcells fs).set (i * 2) (.int .i64 x)).set (i * 2 + 1) (.int .i64 y)
  | [], i, h, _, _ => by simp at h
  | f :: fs, 0, _, x, y => by simp [fcells]
  | f :: fs, i + 1, h, x, y => by
    have ih := fcells_set fs i (by simpa using h) x y
    rw [List.set_cons_succ, show (i + 1) * 2 = i * 2 + 1 + 1 by omega]
    simp only [fcells, List.flatMap_cons] at ih ⊢
    rw [ih]
    rfl
theorem FO.cells {W : World} {B q n cap : Nat} {fs : List (Int × Int)} (h : FO W B (.slice (some ⟨q, 0, none⟩) n cap) fs) (i : Nat) (hi : i < fs.length) :
    W.cell? ⟨q, i * 2, none⟩ = some (.int .i64 fs[i].1) ∧ W.cell? ⟨q, i * 2 + 1, none⟩ = some (.int .i64 fs[i].2) ∧ W.frozen? ⟨q, i * 2, none⟩ = false ∧ W.frozen? ⟨q, i * 2 + 1, none⟩ = false ∧ B ≤ q := by
  obtain ⟨-, hB, cur, h5, -, h6⟩ := ownsRow_set h (i * 2) (by omega) (.int .i64 0)
  obtain ⟨-, -, cur', h5', -, h7⟩ := ownsRow_set h (i * 2 + 1) (by omega) (.int .i64 0)
  rw [h5] at h5'
  cases h5'
  obtain ⟨g1, g2⟩ := fcells_get fs i hi
  exact ⟨by rw [cell_of_row _ _ _ _ _ _ h5, h6, g1], by rw [cell_of_row _ _ _ _ _ _ h5, h7, g2], frozen_of_row _ _ _ _ _ h5, frozen_of_row _ _ _ _ _ h5, hB⟩
theorem FO.set {W : World} {B q n cap : Nat} {fs : List (Int × Int)} (h : FO W B (.slice (some ⟨q, 0, none⟩) n cap) fs) (i : Nat) (hi : i < fs.length) (x y : Int) :
    FO ((W.setCell ⟨q, i * 2, none⟩ (.int .i64 x)).setCell ⟨q, i * 2 + 1, none⟩ (.int .i64 y)) B (.slice (some ⟨q, 0, none⟩) n cap) (fs.set i (x, y)) := by
  have h1 := (ownsRow_set h (i * 2) (by omega) (.int .i64 x)).1
  have h2 := (ownsRow_set h1 (i * 2 + 1) (by omega) (.int .i64 y)).1
  unfold FO
  rw [fcells_set fs i hi, List.length_set]
  exact h2
theorem FO.set1 {W : World} {B q n cap : Nat} {fs : List (Int × Int)} (h : FO W B (.slice (some ⟨q, 0, none⟩) n cap) fs) (i : Nat) (hi : i < fs.length) (x : Int) :
    FO (W.setCell ⟨q, i * 2, none⟩ (.int .i64 x)) B (.slice (some ⟨q, 0, none⟩) n cap) (fs.set i (x, fs[i].2)) := by
  have h1 := (ownsRow_set h (i * 2) (by omega) (.int .i64 x)).1
  unfold FO
  rw [fcells_set fs i hi, List.length_set]
  have e : ((fcells fs).set (i * 2) (.int .i64 x)).set (i * 2 + 1) (.int .i64 fs[i].2) = (fcells fs).set (i * 2) (.int .i64 x) := by
    apply List.ext_getElem?
    intro k
    rw [List.getElem?_set]
    split
    · rename_i e
      subst e
      have h3 := (fcells_get fs i hi).2
      have h4 := (List.getElem?_eq_some_iff.1 h3).1
      rw [List.length_set, if_pos h4, List.getElem?_set, if_neg (by omega), h3]
    · rfl
  rw [e]
  exact h1
theorem FO.set2 {W : World} {B q n cap : Nat} {fs : List (Int × Int)} (h : FO W B (.slice (some ⟨q, 0, none⟩) n cap) fs) (i : Nat) (hi : i < fs.length) (y : Int) :
    FO (W.setCell ⟨q, i * 2 + 1, none⟩ (.int .i64 y)) B (.slice (some ⟨q, 0, none⟩) n cap) (fs.set i (fs[i].1, y)) := by
  have h1 := (ownsRow_set h (i * 2 + 1) (by omega) (.int .i64 y)).1
  unfold FO
  rw [fcells_set fs i hi, List.length_set]
  have e : (fcells fs).set (i * 2) (.int .i64 fs[i].1) = fcells fs := by
    apply List.ext_getElem?
    intro k
    rw [List.getElem?_set]
    split
    · rename_i e
      subst e
      have h3 := (fcells_get fs i hi).1
      have h4 := (List.getElem?_eq_some_iff.1 h3).1
      rw [if_pos h4, h3]
    · rfl
  rw [e]
  exact h1
theorem Ints.cells {W : World} {B q n cap : Nat} {xs : List Int} (h : Ints W B (.slice (some ⟨q, 0, none⟩) n cap) xs) (i : Nat) (hi : i < xs.length) :
    W.cell? ⟨q, i, none⟩ = some (.int .i64 xs[i]) ∧ W.frozen? ⟨q, i, none⟩ = false ∧ B ≤ q := by
  obtain ⟨-, hB, cur, h5, -, h6⟩ := ownsRow_set h i (by omega) (.int .i64 0)
  exact ⟨by rw [cell_of_row _ _ _ _ _ _ h5, h6, List.getElem?_map, List.getElem?_eq_getElem hi]; rfl, frozen_of_row _ _ _ _ _ h5, hB⟩
theorem Ints.set {W : World} {B q n cap : Nat} {xs : List Int} (h : Ints W B (.slice (some ⟨q, 0, none⟩) n cap) xs) (i : Nat) (hi : i < xs.length) (x : Int) :
    Ints (W.setCell ⟨q, i, none⟩ (.int .i64 x)) B (.slice (some ⟨q, 0, none⟩) n cap) (xs.set i x) := by
  have h1 := (ownsRow_set h i (by omega) (.int .i64 x)).1
  unfold Ints
  rw [List.map_set, List.length_set]
  exact h1
theorem FO.kept {W W' : World} {B : Nat} {v : Value} {fs : List (Int × Int)} (h : FO W B v fs) (hk : ∀ k o, v.ownBlock = some k → W.heap[k]? = some o → W'.heap[k]? = some o) : FO W' B v fs :=
  ⟨h.1, h.2.imp id fun ⟨g, cap, cur, h3, h4, h5, h6⟩ => ⟨g, cap, cur, h3, h4, hk g _ (by rw [h3]; rfl) h5, h6⟩⟩
theorem Ints.kept {W W' : World} {B : Nat} {v : Value} {xs : List Int} (h : Ints W B v xs) (hk : ∀ k o, v.ownBlock = some k → W.heap[k]? = some o → W'.heap[k]? = some o) : Ints W' B v xs :=
  ⟨h.1, h.2.imp id fun ⟨g, cap, cur, h3, h4, h5, h6⟩ => ⟨g, cap, cur, h3, h4, hk g _ (by rw [h3]; rfl) h5, h6⟩⟩
/-- The first i members are new. -/
def mixL {α : Type} (new old : Nat → α) (n i : Nat) : List α := (List.range n).map fun j => if j < i then new j else old j
theorem mix_len {α : Type} (new old : Nat → α) (n i : Nat) : (mixL new old n i).length = n := by simp [mixL]
theorem mix_get {α : Type} (new old : Nat → α) (n i j : Nat) (h : j < (mixL new old n i).length) : (mixL new old n i)[j] = if j < i then new j else old j := by simp [mixL]
theorem mix_set {α : Type} (new old : Nat → α) (n i : Nat) (x : α) (hx : x = new i) : (mixL new old n i).set i x = mixL new old n (i + 1) := by
  apply List.ext_getElem
  · simp [mixL]
  · intro j h1 h2
    rw [List.getElem_set, mix_get, mix_get]
    by_cases e : i = j
    · subst e; rw [if_pos rfl, if_pos (by omega), hx]
    · rw [if_neg e]
      by_cases h : j < i
      · rw [if_pos h, if_pos (by omega)]
      · rw [if_neg h, if_neg (by omega)]
theorem mix_zero {α : Type} (new : Nat → α) (L : List α) (d : α) : mixL new (fun j => L.getD j d) L.length 0 = L := by
  apply List.ext_getElem
  · simp [mixL]
  · intro j h1 h2
    rw [mix_get, if_neg (by omega), List.getD_eq_getElem?_getD, List.getElem?_eq_getElem h2, Option.getD_some]
theorem mix_full {α : Type} (new old : Nat → α) (n : Nat) : mixL new old n n = (List.range n).map new := by
  unfold mixL
  apply List.map_congr_left
  intro j hj
  rw [if_pos (List.mem_range.1 hj)]
/-- What holds while the copies are changed. -/
structure TurnI (g : Nat) (w : World) (R : RH) (fv cv : Value) (gp ee : Nat) (ww : Value) (b5 b6 b7 : Nat) (A5 A6 A7 : Array Value) (f5 f6 f7 c5 c6 c7 : Value) (F5 F6 F7 : List (Int × Int)) (C5 C6 C7 : List Int) (W : World) : Prop where
  bel : Below g w W
  hx : W.heap[g]? = some (.cells (handR R fv cv) 26 (0, 0))
  wt : WtR R ee ww g W
  sz : gp ≤ W.heap.size
  x5 : W.heap[b5]? = some (.cells A5 26 (0, 0))
  x6 : W.heap[b6]? = some (.cells A6 26 (0, 0))
  x7 : W.heap[b7]? = some (.cells A7 26 (0, 0))
  k5 : FO W gp f5 F5
  k6 : FO W gp f6 F6
  k7 : FO W gp f7 F7
  l5 : Ints W gp c5 C5
  l6 : Ints W gp c6 C6
  l7 : Ints W gp c7 C7
theorem WtR.kept {R : RH} {ee : Nat} {v : Value} {g : Nat} {W W' : World} (h : WtR R ee v g W) (hk : ∀ ob o, v.ownBlock = some ob → W.heap[ob]? = some o → W'.heap[ob]? = some o) : WtR R ee v g W' := by
  rcases h with h | h | ⟨h1, h2, h3, h4, ob, h5, h6, h7⟩
  · exact .inl h
  · exact .inr (.inl h)
  · exact .inr (.inr ⟨h1, h2, h3, h4, ob, h5, h6, hk ob _ (by rw [h5]; rfl) h7⟩)
theorem WtR.own {R : RH} {ee : Nat} {v : Value} {g : Nat} {W : World} (h : WtR R ee v g W) : ∀ k, v.ownBlock = some k → g ≤ k ∧ ∃ cs, W.heap[k]? = some (.cells cs 3 (0, 0)) := by
  intro k hk
  rcases h with ⟨_, _, rfl⟩ | ⟨_, _, _, _, rfl⟩ | ⟨_, _, _, _, ob, rfl, h6, h7⟩
  · cases hk
  · cases hk
  · cases hk; exact ⟨h6, _, h7⟩
theorem TurnI.below {g : Nat} {w : World} {R : RH} {fv cv : Value} {gp ee : Nat} {ww : Value} {b5 b6 b7 : Nat} {A5 A6 A7 : Array Value} {f5 f6 f7 c5 c6 c7 : Value} {F5 F6 F7 : List (Int × Int)} {C5 C6 C7 : List Int} {W W' : World}
    (h : TurnI g w R fv cv gp ee ww b5 b6 b7 A5 A6 A7 f5 f6 f7 c5 c6 c7 F5 F6 F7 C5 C6 C7 W) (hb : Below W.heap.size W W') : TurnI g w R fv cv gp ee ww b5 b6 b7 A5 A6 A7 f5 f6 f7 c5 c6 c7 F5 F6 F7 C5 C6 C7 W' where
  bel := h.bel.trans (hb.mono (Nat.le_of_lt (heap_lt h.hx)))
  hx := heap_below hb h.hx (heap_lt h.hx)
  wt := h.wt.kept fun _ _ _ ho => heap_below hb ho (heap_lt ho)
  sz := Nat.le_trans h.sz hb.size
  x5 := heap_below hb h.x5 (heap_lt h.x5)
  x6 := heap_below hb h.x6 (heap_lt h.x6)
  x7 := heap_below hb h.x7 (heap_lt h.x7)
  k5 := h.k5.below hb
  k6 := h.k6.below hb
  k7 := h.k7.below hb
  l5 := h.l5.below hb
  l6 := h.l6.below hb
  l7 := h.l7.below hb
/-- What lies apart. -/
structure TurnS (g gp : Nat) (ww : Value) (b5 b6 b7 : Nat) (f5 f6 f7 c5 c6 c7 : Value) : Prop where
  lt : g < gp
  wlt : ∀ k, ww.ownBlock = some k → k < gp
  d56 : ∀ b, f5.ownBlock = some b → f6.ownBlock ≠ some b
  d57 : ∀ b, f5.ownBlock = some b → f7.ownBlock ≠ some b
  d67 : ∀ b, f6.ownBlock = some b → f7.ownBlock ≠ some b
  e56 : ∀ b, c5.ownBlock = some b → c6.ownBlock ≠ some b
  e57 : ∀ b, c5.ownBlock = some b → c7.ownBlock ≠ some b
  n56 : b5 ≠ b6
  n57 : b5 ≠ b7
  n67 : b6 ≠ b7
  g5 : gp ≤ b5
  g6 : gp ≤ b6
  g7 : gp ≤ b7
theorem TurnI.set5 {g : Nat} {w : World} {R : RH} {fv cv : Value} {gp ee : Nat} {ww : Value} {b5 b6 b7 : Nat} {A5 A6 A7 : Array Value} {f5 f6 f7 c5 c6 c7 : Value} {F5 F6 F7 : List (Int × Int)} {C5 C6 C7 : List Int} {W W' : World} {F' : List (Int × Int)} {q : Nat}
    (h : TurnI g w R fv cv gp ee ww b5 b6 b7 A5 A6 A7 f5 f6 f7 c5 c6 c7 F5 F6 F7 C5 C6 C7 W) (S : TurnS g gp ww b5 b6 b7 f5 f6 f7 c5 c6 c7) (hq : f5.ownBlock = some q) (hW : ∀ k o, k ≠ q → W.heap[k]? = some o → W'.heap[k]? = some o) (hB : Below gp W W') (hf : FO W' gp f5 F') : TurnI g w R fv cv gp ee ww b5 b6 b7 A5 A6 A7 f5 f6 f7 c5 c6 c7 F' F6 F7 C5 C6 C7 W' := by
  obtain ⟨hgq, cs, hcs⟩ := h.k5.own q hq
  have hlt := S.lt
  have hty : ∀ k o, W.heap[k]? = some o → (∀ cs', o ≠ .cells cs' 50 (0, 0)) → k ≠ q := fun k o ho hn e => by subst e; rw [hcs] at ho; cases ho; exact hn _ rfl
  refine ⟨h.bel.trans (hB.mono (Nat.le_of_lt hlt)), hW _ _ (by omega) h.hx, h.wt.kept fun ob o hob ho => hW _ _ (by have := S.wlt ob hob; omega) ho, Nat.le_trans h.sz hB.size, ?_, ?_, ?_, ?_, ?_, ?_, ?_, ?_, ?_⟩
  · exact hW _ _ (hty _ _ h.x5 (fun _ e => by cases e)) h.x5
  · exact hW _ _ (hty _ _ h.x6 (fun _ e => by cases e)) h.x6
  · exact hW _ _ (hty _ _ h.x7 (fun _ e => by cases e)) h.x7
  · exact hf
  · exact h.k6.kept fun k o hk ho => hW _ _ (fun e => S.d56 q hq (e ▸ hk)) ho
  · exact h.k7.kept fun k o hk ho => hW _ _ (fun e => S.d57 q hq (e ▸ hk)) ho
  · exact h.l5.kept fun k' o hk ho => hW _ _ (hty _ _ ho fun cs' e => by obtain ⟨_, cs2, h2⟩ := h.l5.own _ hk; rw [h2] at ho; cases ho; cases e) ho
  · exact h.l6.kept fun k' o hk ho => hW _ _ (hty _ _ ho fun cs' e => by obtain ⟨_, cs2, h2⟩ := h.l6.own _ hk; rw [h2] at ho; cases ho; cases e) ho
  · exact h.l7.kept fun k' o hk ho => hW _ _ (hty _ _ ho fun cs' e => by obtain ⟨_, cs2, h2⟩ := h.l7.own _ hk; rw [h2] at ho; cases ho; cases e) ho
theorem TurnI.set6 {g : Nat} {w : World} {R : RH} {fv cv : Value} {gp ee : Nat} {ww : Value} {b5 b6 b7 : Nat} {A5 A6 A7 : Array Value} {f5 f6 f7 c5 c6 c7 : Value} {F5 F6 F7 : List (Int × Int)} {C5 C6 C7 : List Int} {W W' : World} {F' : List (Int × Int)} {q : Nat}
    (h : TurnI g w R fv cv gp ee ww b5 b6 b7 A5 A6 A7 f5 f6 f7 c5 c6 c7 F5 F6 F7 C5 C6 C7 W) (S : TurnS g gp ww b5 b6 b7 f5 f6 f7 c5 c6 c7) (hq : f6.ownBlock = some q) (hW : ∀ k o, k ≠ q → W.heap[k]? = some o → W'.heap[k]? = some o) (hB : Below gp W W') (hf : FO W' gp f6 F') : TurnI g w R fv cv gp ee ww b5 b6 b7 A5 A6 A7 f5 f6 f7 c5 c6 c7 F5 F' F7 C5 C6 C7 W' := by
  obtain ⟨hgq, cs, hcs⟩ := h.k6.own q hq
  have hlt := S.lt
  have hty : ∀ k o, W.heap[k]? = some o → (∀ cs', o ≠ .cells cs' 50 (0, 0)) → k ≠ q := fun k o ho hn e => by subst e; rw [hcs] at ho; cases ho; exact hn _ rfl
  refine ⟨h.bel.trans (hB.mono (Nat.le_of_lt hlt)), hW _ _ (by omega) h.hx, h.wt.kept fun ob o hob ho => hW _ _ (by have := S.wlt ob hob; omega) ho, Nat.le_trans h.sz hB.size, ?_, ?_, ?_, ?_, ?_, ?_, ?_, ?_, ?_⟩
  · exact hW _ _ (hty _ _ h.x5 (fun _ e => by cases e)) h.x5
  · exact hW _ _ (hty _ _ h.x6 (fun _ e => by cases e)) h.x6
  · exact hW _ _ (hty _ _ h.x7 (fun _ e => by cases e)) h.x7
  · exact h.k5.kept fun k o hk ho => hW _ _ (fun e => S.d56 q (e ▸ hk) hq) ho
  · exact hf
  · exact h.k7.kept fun k o hk ho => hW _ _ (fun e => S.d67 q hq (e ▸ hk)) ho
  · exact h.l5.kept fun k' o hk ho => hW _ _ (hty _ _ ho fun cs' e => by obtain ⟨_, cs2, h2⟩ := h.l5.own _ hk; rw [h2] at ho; cases ho; cases e) ho
  · exact h.l6.kept fun k' o hk ho => hW _ _ (hty _ _ ho fun cs' e => by obtain ⟨_, cs2, h2⟩ := h.l6.own _ hk; rw [h2] at ho; cases ho; cases e) ho
  · exact h.l7.kept fun k' o hk ho => hW _ _ (hty _ _ ho fun cs' e => by obtain ⟨_, cs2, h2⟩ := h.l7.own _ hk; rw [h2] at ho; cases ho; cases e) ho
theorem TurnI.set7 {g : Nat} {w : World} {R : RH} {fv cv : Value} {gp ee : Nat} {ww : Value} {b5 b6 b7 : Nat} {A5 A6 A7 : Array Value} {f5 f6 f7 c5 c6 c7 : Value} {F5 F6 F7 : List (Int × Int)} {C5 C6 C7 : List Int} {W W' : World} {F' : List (Int × Int)} {q : Nat}
    (h : TurnI g w R fv cv gp ee ww b5 b6 b7 A5 A6 A7 f5 f6 f7 c5 c6 c7 F5 F6 F7 C5 C6 C7 W) (S : TurnS g gp ww b5 b6 b7 f5 f6 f7 c5 c6 c7) (hq : f7.ownBlock = some q) (hW : ∀ k o, k ≠ q → W.heap[k]? = some o → W'.heap[k]? = some o) (hB : Below gp W W') (hf : FO W' gp f7 F') : TurnI g w R fv cv gp ee ww b5 b6 b7 A5 A6 A7 f5 f6 f7 c5 c6 c7 F5 F6 F' C5 C6 C7 W' := by
  obtain ⟨hgq, cs, hcs⟩ := h.k7.own q hq
  have hlt := S.lt
  have hty : ∀ k o, W.heap[k]? = some o → (∀ cs', o ≠ .cells cs' 50 (0, 0)) → k ≠ q := fun k o ho hn e => by subst e; rw [hcs] at ho; cases ho; exact hn _ rfl
  refine ⟨h.bel.trans (hB.mono (Nat.le_of_lt hlt)), hW _ _ (by omega) h.hx, h.wt.kept fun ob o hob ho => hW _ _ (by have := S.wlt ob hob; omega) ho, Nat.le_trans h.sz hB.size, ?_, ?_, ?_, ?_, ?_, ?_, ?_, ?_, ?_⟩
  · exact hW _ _ (hty _ _ h.x5 (fun _ e => by cases e)) h.x5
  · exact hW _ _ (hty _ _ h.x6 (fun _ e => by cases e)) h.x6
  · exact hW _ _ (hty _ _ h.x7 (fun _ e => by cases e)) h.x7
  · exact h.k5.kept fun k o hk ho => hW _ _ (fun e => S.d57 q (e ▸ hk) hq) ho
  · exact h.k6.kept fun k o hk ho => hW _ _ (fun e => S.d67 q (e ▸ hk) hq) ho
  · exact hf
  · exact h.l5.kept fun k' o hk ho => hW _ _ (hty _ _ ho fun cs' e => by obtain ⟨_, cs2, h2⟩ := h.l5.own _ hk; rw [h2] at ho; cases ho; cases e) ho
  · exact h.l6.kept fun k' o hk ho => hW _ _ (hty _ _ ho fun cs' e => by obtain ⟨_, cs2, h2⟩ := h.l6.own _ hk; rw [h2] at ho; cases ho; cases e) ho
  · exact h.l7.kept fun k' o hk ho => hW _ _ (hty _ _ ho fun cs' e => by obtain ⟨_, cs2, h2⟩ := h.l7.own _ hk; rw [h2] at ho; cases ho; cases e) ho
theorem TurnI.setc {g : Nat} {w : World} {R : RH} {fv cv : Value} {gp ee : Nat} {ww : Value} {b5 b6 b7 : Nat} {A5 A6 A7 : Array Value} {f5 f6 f7 c5 c6 c7 : Value} {F5 F6 F7 : List (Int × Int)} {C5 C6 C7 : List Int} {W W' : World} {C' : List Int} {q : Nat}
    (h : TurnI g w R fv cv gp ee ww b5 b6 b7 A5 A6 A7 f5 f6 f7 c5 c6 c7 F5 F6 F7 C5 C6 C7 W) (S : TurnS g gp ww b5 b6 b7 f5 f6 f7 c5 c6 c7) (hq : c5.ownBlock = some q) (hW : ∀ k o, k ≠ q → W.heap[k]? = some o → W'.heap[k]? = some o) (hB : Below gp W W') (hf : Ints W' gp c5 C') : TurnI g w R fv cv gp ee ww b5 b6 b7 A5 A6 A7 f5 f6 f7 c5 c6 c7 F5 F6 F7 C' C6 C7 W' := by
  obtain ⟨hgq, cs, hcs⟩ := h.l5.own q hq
  have hlt := S.lt
  have hty : ∀ k o, W.heap[k]? = some o → (∀ cs', o ≠ .cells cs' 3 (0, 0)) → k ≠ q := fun k o ho hn e => by subst e; rw [hcs] at ho; cases ho; exact hn _ rfl
  refine ⟨h.bel.trans (hB.mono (Nat.le_of_lt hlt)), hW _ _ (by omega) h.hx, h.wt.kept fun ob o hob ho => hW _ _ (by have := S.wlt ob hob; omega) ho, Nat.le_trans h.sz hB.size, ?_, ?_, ?_, ?_, ?_, ?_, ?_, ?_, ?_⟩
  · exact hW _ _ (hty _ _ h.x5 (fun _ e => by cases e)) h.x5
  · exact hW _ _ (hty _ _ h.x6 (fun _ e => by cases e)) h.x6
  · exact hW _ _ (hty _ _ h.x7 (fun _ e => by cases e)) h.x7
  · exact h.k5.kept fun k' o hk ho => hW _ _ (hty _ _ ho fun cs' e => by obtain ⟨_, cs2, h2⟩ := h.k5.own _ hk; rw [h2] at ho; cases ho; cases e) ho
  · exact h.k6.kept fun k' o hk ho => hW _ _ (hty _ _ ho fun cs' e => by obtain ⟨_, cs2, h2⟩ := h.k6.own _ hk; rw [h2] at ho; cases ho; cases e) ho
  · exact h.k7.kept fun k' o hk ho => hW _ _ (hty _ _ ho fun cs' e => by obtain ⟨_, cs2, h2⟩ := h.k7.own _ hk; rw [h2] at ho; cases ho; cases e) ho
  · exact hf
  · exact h.l6.kept fun k o hk ho => hW _ _ (fun e => S.e56 q hq (e ▸ hk)) ho
  · exact h.l7.kept fun k o hk ho => hW _ _ (fun e => S.e57 q hq (e ▸ hk)) ho
theorem TurnI.setb {g : Nat} {w : World} {R : RH} {fv cv : Value} {gp ee : Nat} {ww : Value} {b5 b6 b7 : Nat} {A5 A6 A7 : Array Value} {f5 f6 f7 c5 c6 c7 : Value} {F5 F6 F7 : List (Int × Int)} {C5 C6 C7 : List Int} {W W' : World} {A' : Array Value} {q : Nat}
    (h : TurnI g w R fv cv gp ee ww b5 b6 b7 A5 A6 A7 f5 f6 f7 c5 c6 c7 F5 F6 F7 C5 C6 C7 W) (S : TurnS g gp ww b5 b6 b7 f5 f6 f7 c5 c6 c7) (hq : q = b5) (hW : ∀ k o, k ≠ q → W.heap[k]? = some o → W'.heap[k]? = some o) (hB : Below gp W W') (hf : W'.heap[b5]? = some (.cells A' 26 (0, 0))) : TurnI g w R fv cv gp ee ww b5 b6 b7 A' A6 A7 f5 f6 f7 c5 c6 c7 F5 F6 F7 C5 C6 C7 W' := by
  have hgq := S.g5
  have hcs := h.x5
  subst hq
  have hlt := S.lt
  have hty : ∀ k o, W.heap[k]? = some o → (∀ cs', o ≠ .cells cs' 26 (0, 0)) → k ≠ q := fun k o ho hn e => by subst e; rw [hcs] at ho; cases ho; exact hn _ rfl
  refine ⟨h.bel.trans (hB.mono (Nat.le_of_lt hlt)), hW _ _ (by omega) h.hx, h.wt.kept fun ob o hob ho => hW _ _ (by have := S.wlt ob hob; omega) ho, Nat.le_trans h.sz hB.size, ?_, ?_, ?_, ?_, ?_, ?_, ?_, ?_, ?_⟩
  · exact hf
  · exact hW _ _ (fun e => S.n56 e.symm) h.x6
  · exact hW _ _ (fun e => S.n57 e.symm) h.x7
  · exact h.k5.kept fun k' o hk ho => hW _ _ (hty _ _ ho fun cs' e => by obtain ⟨_, cs2, h2⟩ := h.k5.own _ hk; rw [h2] at ho; cases ho; cases e) ho
  · exact h.k6.kept fun k' o hk ho => hW _ _ (hty _ _ ho fun cs' e => by obtain ⟨_, cs2, h2⟩ := h.k6.own _ hk; rw [h2] at ho; cases ho; cases e) ho
  · exact h.k7.kept fun k' o hk ho => hW _ _ (hty _ _ ho fun cs' e => by obtain ⟨_, cs2, h2⟩ := h.k7.own _ hk; rw [h2] at ho; cases ho; cases e) ho
  · exact h.l5.kept fun k' o hk ho => hW _ _ (hty _ _ ho fun cs' e => by obtain ⟨_, cs2, h2⟩ := h.l5.own _ hk; rw [h2] at ho; cases ho; cases e) ho
  · exact h.l6.kept fun k' o hk ho => hW _ _ (hty _ _ ho fun cs' e => by obtain ⟨_, cs2, h2⟩ := h.l6.own _ hk; rw [h2] at ho; cases ho; cases e) ho
  · exact h.l7.kept fun k' o hk ho => hW _ _ (hty _ _ ho fun cs' e => by obtain ⟨_, cs2, h2⟩ := h.l7.own _ hk; rw [h2] at ho; cases ho; cases e) ho
theorem WtR.mono {R : RH} {ee : Nat} {v : Value} {g g' : Nat} {W : World} (h : WtR R ee v g W) (hg : g' ≤ g) : WtR R ee v g' W := by
  rcases h with h | h | ⟨h1, h2, h3, h4, ob, h5, h6, h7⟩
  · exact .inl h
  · exact .inr (.inl h)
  · exact .inr (.inr ⟨h1, h2, h3, h4, ob, h5, Nat.le_trans hg h6, h7⟩)
theorem FO.form {W : World} {B k c : Nat} {p : Option Addr} {fs : List (Int × Int)} (h : FO W B (.slice p k c) fs) (h0 : 0 < fs.length) : ∃ q, p = some ⟨q, 0, none⟩ ∧ fs.length = k := by
  rcases h.2 with ⟨_, h3⟩ | ⟨g, cap, cur, h3, _⟩
  · omega
  · injection h3 with e1 e2 e3
    exact ⟨g, e1, e2.symm⟩
theorem Ints.form2 {W : World} {B k c : Nat} {p : Option Addr} {xs : List Int} (h : Ints W B (.slice p k c) xs) (h0 : 0 < xs.length) : ∃ q, p = some ⟨q, 0, none⟩ ∧ xs.length = k := by
  rcases h.2 with ⟨_, h3⟩ | ⟨g, cap, cur, h3, _⟩
  · omega
  · injection h3 with e1 e2 e3
    exact ⟨g, e1, e2.symm⟩
theorem faces_small {H : HV} (hV : Val H) : ∀ f ∈ (rawOf H).faces, (0 ≤ f.1 ∧ f.1 ≤ 40) ∧ 0 ≤ f.2 ∧ f.2 ≤ 1000 := by
  intro f hf
  obtain ⟨x, hx, rfl⟩ := List.mem_map.1 hf
  by_cases hk : H.kind = 1
  · rcases hV.hand.ok with ⟨_, _, _, _, _, h⟩ | ⟨h, _⟩ | ⟨h, _⟩ | ⟨h, _⟩ | ⟨h, _⟩
    · have := h x hx
      exact ⟨⟨by simp, by simp only; omega⟩, by simp, by simp only; omega⟩
    all_goals omega
  · rw [hV.hand.bare.1 hk] at hx
    simp at hx
theorem rev_get {α : Type} (L : List α) (d : α) : ((List.range L.length).map fun j => L.getD (L.length - 1 - j) d) = L.reverse := by
  apply List.ext_getElem
  · simp
  · intro j h1 h2
    have h3 : j < L.length := by simpa using h1
    rw [List.getElem_map, List.getElem_range, List.getElem_reverse, List.getD_eq_getElem?_getD, List.getElem?_eq_getElem (by omega), Option.getD_some]
theorem map_get {α β : Type} (L : List α) (d : α) (f : α → β) : ((List.range L.length).map fun j => f (L.getD j d)) = L.map f := by
  apply List.ext_getElem
  · simp
  · intro j h1 h2
    have h3 : j < L.length := by simpa using h1
    rw [List.getElem_map, List.getElem_range, List.getElem_map, List.getD_eq_getElem?_getD, List.getElem?_eq_getElem h3, Option.getD_some]
theorem raw_back (H : HV) : (rawOf (backH H)).faces = (rawOf H).faces.reverse ∧ (rawOf (backH H)).cards = (rawOf H).cards.reverse := by simp [rawOf, backH]
theorem raw_twice (H : HV) : (rawOf (twiceH H)).faces = (rawOf H).faces.map fun f => (f.1, 2 * f.2) := by simp [rawOf, twiceH]
theorem raw_more (H : HV) : (rawOf (moreH H)).faces = (rawOf H).faces.map fun f => (f.1 + 1, f.2) := by simp [rawOf, moreH]
theorem exec_fldI {ev : Operand → Value} {o : Oper} {x : Operand} {g i k : Nat} {W : World} (ho : o.op = .fieldAddr 26 x i) (hx : ev x = .pointer (some ⟨g, 0, none⟩)) (hk : (i = 3 ∧ k = 3) ∨ (i = 4 ∧ k = 4)) : (execOp ev o).run Try.prog W = .ok (.value (.pointer (some ⟨g, k, none⟩))) W := by
  rcases hk with ⟨rfl, rfl⟩ | ⟨rfl, rfl⟩ <;> simp [execOp, ho, hx] <;> go_simp
theorem exec_ldN {ev : Operand → Value} {o : Oper} {x : Operand} {a : Addr} {v : Value} {W : World} (ho : o.op = .load 3 x) (hx : ev x = .pointer (some a)) (hc : W.cell? a = some v) :
    (execOp ev o).run Try.prog W = .ok (.value v) W := by
  simp [execOp, ho, hx]
  go_simp
theorem exec_add2 {ev : Operand → Value} {o : Oper} {x : Operand} {m : Int} {W : World} (ho : o.op = .binOp .add 3 x (.const (.int .i64 2)) 3) (hx : ev x = .int .i64 m) (hc : ev (.const (.int .i64 2)) = .int .i64 2) (hm : IntKind.i64.wrap (m + 2) = m + 2) :
    (execOp ev o).run Try.prog W = .ok (.value (.int .i64 (m + 2))) W := by
  simp [execOp, ho, hx, hc]
  go_simp
theorem back_row (H : HV) (f c : Value) (hk : H.kind ≠ 2) : handR (rawOf (backH H)) f c = handR (rawOf H) f c := by simp [handR, rawOf, backH, hk]
theorem back_row2 (H : HV) (f c : Value) (hk : H.kind = 2) : handR (rawOf (backH H)) f c = ((handR (rawOf H) f c).setIfInBounds 3 (.int .i64 (H.lowI + 2))).setIfInBounds 4 (.int .i64 (H.highI + 2)) := by simp [handR, handV, rawOf, backH, hk]
theorem row_reads {W : World} {ob m : Nat} {f : Nat → Nat} (h : W.heap[ob]? = some (.cells (irow m (cst f)) 3 (0, 0))) : Reads W (.slice (some ⟨ob, 0, none⟩) m m) (((List.range m).map f).map fun x => ((x : Nat) : Int)) := wts_reads h _ rfl
theorem wt_same {H H' : HV} (hV : Val H) (hS : SameW H H') {ee eb : Nat} {ww bb : Value} {g g' : Nat} {W : World} (h1 : WtR (rawOf H) ee ww g W) (h2 : WtR (rawOf H') eb bb g' W) :
    (eb = 2 ∧ okR (rawOf H') = false ∧ (ee = 0 ∨ ee = 8)) ∨ (eb = 8 ∧ ¬ dnH H' ≤ 1000000000000000 ∧ (ee = 0 ∨ ee = 8)) ∨
    (eb = 0 ∧ ee = 0 ∧ ∃ xs : List Int, xs.length ≤ 5000 ∧ Reads W ww xs ∧ Reads W bb xs) := by
  have h0 : ee = 0 ∨ ee = 8 := by
    rcases h1 with ⟨_, h, _⟩ | ⟨h, _⟩ | ⟨h, _⟩
    · rw [hV.ok] at h; cases h
    · exact .inr h
    · exact .inl h
  rcases h2 with ⟨h3, h4, _⟩ | ⟨h3, _, _, h4, _⟩ | ⟨h3, _, _, h4, oa, h5, _, h6⟩
  · exact .inl ⟨h3, h4, h0⟩
  · rw [toH_raw] at h4
    exact .inr (.inl ⟨h3, h4, h0⟩)
  · rw [toH_raw] at h4 h5 h6
    rcases h1 with ⟨_, h, _⟩ | ⟨_, _, _, h, _⟩ | ⟨h7, _, _, h8, ob, h9, _, h10⟩
    · rw [hV.ok] at h; cases h
    · rw [toH_raw] at h
      exact absurd (Nat.le_trans hS.1 h4) h
    · rw [toH_raw] at h9 h10
      rw [hS.2.1] at h5 h6
      have h11 := row_reads h10
      have h12 := row_reads h6
      rw [show (List.range (outsN H)).map (wqH H') = (List.range (outsN H)).map (wqH H) from List.map_congr_left fun o _ => hS.2.2 o] at h12
      have := (outs_le H hV.hand.ok).2
      exact .inr (.inr ⟨h3, h7, (((List.range (outsN H)).map (wqH H)).map fun x => ((x : Nat) : Int)), by rw [List.length_map, List.length_map, List.length_range]; omega, by rw [h9]; exact h11, by rw [h5]; exact h12⟩)
theorem storeH (P : Program) {W : World} {b : Nat} {cur : Array Value} {t : TypeId} (h : W.heap[b]? = some (.cells cur t (0, 0))) (hc : cur.size = 8) (R : RH) (p q : Option Addr) (n c n' c' : Nat) :
    (storeCells ⟨b, 0, none⟩ (handR R (.slice p n c) (.slice q n' c')).toList).run P W = .ok () (W.setRow b (handR R (.slice p n c) (.slice q n' c'))) := by
  have h1 := run_storeCells_from (P := P) b t (handR R (.slice p n c) (.slice q n' c')).toList 0 cur W h (by rw [hc]; rfl) (fun v hv => by
    have h2 := handR_one R (.slice p n c) (.slice q n' c') ⟨_, _, _, rfl⟩ ⟨_, _, _, rfl⟩
    exact (Array.all_eq_true_iff_forall_mem.1 h2) v (by simpa using hv))
  simpa using h1
set_option maxHeartbeats 8000000 in
theorem turned_c (R : RH) (fv cv : Value) (w : World) (hrf : ReadsF w fv R.faces) (hrc : ReadsA w cv R.cards) :
    Calls Try.prog 5 #[.agg (handR R fv cv)] w fun e w' => e = .returned (.bool true) ∧ Below w.heap.size w w' := by
  have hx := heap_alloc_new w (.cells (handR R fv cv) 26)
  have hb : Below w.heap.size w (w.alloc (.cells (handR R fv cv) 26)) := (Below.refl _ _).alloc (Nat.le_refl _) _
  have HX := hid hx
  have HB := hid hb
  obtain ⟨pf, cf, hfe⟩ := hrf.form
  obtain ⟨pc, cc, hce⟩ := hrc.form
  have HLG := hid (fun W => large_c R pf pc R.faces.length cf R.cards.length cc W)
  rw [← hfe, ← hce] at HLG
  obtain ⟨g, hg⟩ : ∃ g, w.heap.size = g := ⟨_, rfl⟩
  rw [hg] at HX HB
  clear hx hb
  by_cases hbig : 30 < R.faces.length ∨ 30 < R.cards.length
  · have hbg : (decide (30 < R.faces.length) || decide (30 < R.cards.length)) = true := by simpa using hbig
    rw [hbg] at HLG
    clear hbig hbg hfe hce hrf hrc
    go_enter Try.func5, Try.ntmps5
    go_wp2_with (first
      | (refine wpList_value rfl (by intro c hc; cases hc) (.agg (handR R fv cv)) (exec_ldR rfl rfl HX.out) ?_)
      | (go_at_call 11; refine (HLG.out _).mono ?_; rintro e w1 ⟨rfl, hb1⟩; have HB1 := hid (HB.out.trans (hb1.mono (by simp; omega))); have HX1 := hid (heap_below hb1 HX.out (heap_lt HX.out)); have ⟨k0, k1, k2, k3, k4, k5, k6, k7⟩ := cells8 HX1.out; have hg1 : g < w1.heap.size := heap_lt HX1.out)
      | (go_at_call 12; refine (known_c _).mono ?_; rintro e wk ⟨rfl, hbk⟩))
    go_ret
    exact ⟨rfl, by rw [hg]; exact HB1.out.trans (hbk.mono (by omega))⟩
  · have hsm : (decide (30 < R.faces.length) || decide (30 < R.cards.length)) = false := by simpa using hbig
    rw [hsm] at HLG
    have hlf : R.faces.length ≤ 30 := by omega
    have hlc : R.cards.length ≤ 30 := by omega
    have HOW := hid (fun W hW => own_r R fv cv w hrf hrc (by omega) (by omega) g hg W hW)
    by_cases hok : okR R = true
    · obtain ⟨H, rfl, hV⟩ : ∃ H, R = rawOf H ∧ Val H := ⟨toH R, (Val.of hok).2.symm, (Val.of hok).1⟩
      have HCK := hid (fun f c W (h1 : ReadsF W f (rawOf H).faces) (h2 : ReadsA W c (rawOf H).cards) => check_yes H hV f c W.heap.size W (RawAt.came h1 h2))
      have HWT := hid (fun f c W (h1 : ReadsF W f (rawOf H).faces) (h2 : ReadsA W c (rawOf H).cards) => wtsR_c (rawOf H) f c W h1 h2 (by omega) (by omega))
      have HRF := hid hrf
      have HRC := hid hrc
      have HVL := hid hV
      have hlB : (rawOf (backH H)).faces.length ≤ 30 ∧ (rawOf (backH H)).cards.length ≤ 30 := by rw [(raw_back H).1, (raw_back H).2, List.length_reverse, List.length_reverse]; exact ⟨hlf, hlc⟩
      have hlT : (rawOf (twiceH H)).faces.length ≤ 30 ∧ (rawOf (twiceH H)).cards.length ≤ 30 := by rw [raw_twice, List.length_map]; exact ⟨hlf, hlc⟩
      have hlM : (rawOf (moreH H)).faces.length ≤ 30 ∧ (rawOf (moreH H)).cards.length ≤ 30 := by rw [raw_more, List.length_map]; exact ⟨hlf, hlc⟩
      have HLB := hid hlB
      have HLT := hid hlT
      have HLM := hid hlM
      clear hlB hlT hlM
      have HFE := hid hfe
      have HCE := hid hce
      clear hbig hsm hfe hce hrf hrc hok hV
      go_enter Try.func5, Try.ntmps5
      go_upto_region 4 with (first
        | (refine wpList_value rfl (by intro c hc; cases hc) (.agg (handR (rawOf H) fv cv)) (exec_ldR rfl rfl HX.out) ?_)
        | (refine wpList_value rfl (by intro c hc; cases hc) (.agg (handR (rawOf H) fv cv)) (exec_ldR rfl rfl HX3.out) ?_)
        | (go_at_call 11; refine (HLG.out _).mono ?_; rintro e w1 ⟨rfl, hb1⟩; have HB1 := hid (HB.out.trans (hb1.mono (by simp; omega))); have HX1 := hid (heap_below hb1 HX.out (heap_lt HX.out)); have ⟨k0, k1, k2, k3, k4, k5, k6, k7⟩ := cells8 HX1.out; have hg1 : g < w1.heap.size := heap_lt HX1.out)
        | (go_at_call 15; refine (HOW.out _ HB1.out).mono ?_; rintro e w2 ⟨f1, c1, rfl, hf1, hc1, hb2⟩; have HB2 := hid (HB1.out.trans (hb2.mono (by omega))); have HX2 := hid (heap_below hb2 HX1.out (heap_lt HX1.out)); have hg2 : g < w2.heap.size := heap_lt HX2.out)
        | (go_at_call 26; refine (HCK.out f1 c1 w2 hf1 hc1).mono ?_; rintro e w3 ⟨rfl, hb3⟩; have HB3 := hid (HB2.out.trans (hb3.mono (by omega))); have HX3 := hid (heap_below hb3 HX2.out (heap_lt HX2.out)); clear k0 k1 k2 k3 k4 k5 k6 k7; have hg3 : g < w3.heap.size := heap_lt HX3.out)
        | (go_at_call 15; refine (HOW.out _ HB3.out).mono ?_; rintro e w4 ⟨f2, c2, rfl, hf2, hc2, hb4⟩; have HB4 := hid (HB3.out.trans (hb4.mono (by omega))); have HX4 := hid (heap_below hb4 HX3.out (heap_lt HX3.out)); have hg4 : g < w4.heap.size := heap_lt HX4.out)
        | (go_at_call 14; refine (HWT.out f2 c2 w4 hf2 hc2).mono ?_; rintro e w5 ⟨ww, ee, rfl, hw5, hb5⟩; have HB5 := hid (HB4.out.trans (hb5.mono (by omega))); have HX5 := hid (heap_below hb5 HX4.out (heap_lt HX4.out)); have hg5 : g < w5.heap.size := heap_lt HX5.out; have HW5 := hid hw5))
      clear HX HX1 HX2 HX3 HX4 HB HB1 HB2 HB3 HB4 hb1 hb2 hb3 hb4 hb5 hf1 hc1 hf2 hc2 hw5 HCK HLG
      obtain ⟨gp, hgp⟩ : ∃ gp, w5.heap.size = gp := ⟨_, rfl⟩
      refine grow_region 9 [30, 31, 32, 33, 34, 35, 5, 6, 7] (by kernel_rfl) (by kernel_rfl) (D4 gp (rawOf H) fv cv) blk4 D4.mono D4.lt ?_ ?_
      · intro j oj hj hoj a' w' hb' he hdep K hK
        have hpt : a'.eval (.tmp 1) = .pointer (some ⟨g, 0, none⟩) := (he 1 (by decide)).trans rfl
        have hld : w'.heap[g]? = some (.cells (handR (rawOf H) fv cv) 26 (0, 0)) := heap_below hb' HX5.out (heap_lt HX5.out)
        have hB' : Below g w w' := HB5.out.trans (hb'.mono (by omega))
        have hsz : gp ≤ w'.heap.size := hgp ▸ hb'.size
        have hown : ∀ (k : Nat) (t : Tmp), (k = 0 ∨ k = 2 ∨ k = 4) → D4 gp (rawOf H) fv cv k (a'.eval (.tmp t)) w' → a'.eval (.tmp t) = .agg (handR (rawOf H) fv cv) := by
          rintro k t (rfl | rfl | rfl) h <;> exact h
        have hcall : Calls Try.prog 15 #[.agg (handR (rawOf H) fv cv)] w' fun e w'' => ∃ v, e = .returned v ∧ (∃ f c, v = .agg (handR (rawOf H) f c) ∧ FO w'' gp f (rawOf H).faces ∧ Ints w'' gp c (rawOf H).cards) ∧ (∀ b, hblk v b → w'.heap.size ≤ b) ∧ Below w'.heap.size w' w'' :=
          (own_c (rawOf H) fv cv w' (HRF.out.below (hg ▸ hB')) (HRC.out.below (hg ▸ hB')) (by omega) (by omega)).mono fun e w'' ⟨f, c, h1, h2, h3, h4⟩ => ⟨_, h1, ⟨f, c, rfl, h2.mono hsz, h3.mono hsz⟩, fun b hb => (by
            rcases hblk_eq hb with h | h
            · exact (h2.own b h).1
            · exact (h3.own b h).1), h4⟩
        have hal := heap_alloc_new w' (.cells #[.int .i64 0, .int .i64 0, .slice none 0 0, .int .i64 0, .int .i64 0, .int .i64 0, .int .i64 0, .slice none 0 0] 26)
        have hbal : Below w'.heap.size w' (w'.alloc (.cells #[.int .i64 0, .int .i64 0, .slice none 0 0, .int .i64 0, .int .i64 0, .int .i64 0, .int .i64 0, .slice none 0 0] 26)) := (Below.refl _ _).alloc (Nat.le_refl _) _
        have hj' : j = 0 ∨ j = 1 ∨ j = 2 ∨ j = 3 ∨ j = 4 ∨ j = 5 ∨ j = 6 ∨ j = 7 ∨ j = 8 := by omega
        rcases hj' with rfl | rfl | rfl | rfl | rfl | rfl | rfl | rfl | rfl
        · obtain rfl := Option.some.inj hoj
          exact wpO_val _ (exec_ldR rfl hpt hld) (hK _ _ (Below.refl _ _) rfl (fun b h => h.elim))
        · obtain rfl := Option.some.inj hoj
          exact wpO_call _ _ (exec_own rfl rfl (hown 0 30 (by omega) (hdep ⟨0, .data⟩ (by simp) rfl))) (hcall.mono fun e w'' ⟨v, h1, h2, h3, h4⟩ => ⟨v, h1, hK v w'' h4 h2 h3⟩)
        · obtain rfl := Option.some.inj hoj
          exact wpO_val _ (exec_ldR rfl hpt hld) (hK _ _ (Below.refl _ _) rfl (fun b h => h.elim))
        · obtain rfl := Option.some.inj hoj
          exact wpO_call _ _ (exec_own rfl rfl (hown 2 32 (by omega) (hdep ⟨2, .data⟩ (by simp) rfl))) (hcall.mono fun e w'' ⟨v, h1, h2, h3, h4⟩ => ⟨v, h1, hK v w'' h4 h2 h3⟩)
        · obtain rfl := Option.some.inj hoj
          exact wpO_val _ (exec_ldR rfl hpt hld) (hK _ _ (Below.refl _ _) rfl (fun b h => h.elim))
        · obtain rfl := Option.some.inj hoj
          exact wpO_call _ _ (exec_own rfl rfl (hown 4 34 (by omega) (hdep ⟨4, .data⟩ (by simp) rfl))) (hcall.mono fun e w'' ⟨v, h1, h2, h3, h4⟩ => ⟨v, h1, hK v w'' h4 h2 h3⟩)
        · obtain rfl := Option.some.inj hoj
          exact wpO_val _ (exec_allocH rfl) (hK _ _ hbal ⟨_, rfl, hal⟩ (fun b h => by cases h; exact Nat.le_refl _))
        · obtain rfl := Option.some.inj hoj
          exact wpO_val _ (exec_allocH rfl) (hK _ _ hbal ⟨_, rfl, hal⟩ (fun b h => by cases h; exact Nat.le_refl _))
        · obtain rfl := Option.some.inj hoj
          exact wpO_val _ (exec_allocH rfl) (hK _ _ hbal ⟨_, rfl, hal⟩ (fun b h => by cases h; exact Nat.le_refl _))
      · intro vs w6 hb6 hD hap hnw
        have e0 : vs 0 = .agg (handR (rawOf H) fv cv) := hD 0 (by omega)
        have e2 : vs 2 = .agg (handR (rawOf H) fv cv) := hD 2 (by omega)
        have e4 : vs 4 = .agg (handR (rawOf H) fv cv) := hD 4 (by omega)
        obtain ⟨f5, c5, e1, hf5, hc5⟩ := hD 1 (by omega)
        obtain ⟨f6, c6, e3, hf6, hc6⟩ := hD 3 (by omega)
        obtain ⟨f7, c7, e5, hf7, hc7⟩ := hD 5 (by omega)
        obtain ⟨b5, e6, hx5⟩ := hD 6 (by omega)
        obtain ⟨b6, e7, hx6⟩ := hD 7 (by omega)
        obtain ⟨b7, e8, hx7⟩ := hD 8 (by omega)
        have d56 : ∀ b, f5.ownBlock = some b → f6.ownBlock ≠ some b := fun b h1 h2 => hap 1 3 b (by omega) (by omega) (by omega) ⟨_, _, _, e1, .inl h1⟩ ⟨_, _, _, e3, .inl h2⟩
        have d57 : ∀ b, f5.ownBlock = some b → f7.ownBlock ≠ some b := fun b h1 h2 => hap 1 5 b (by omega) (by omega) (by omega) ⟨_, _, _, e1, .inl h1⟩ ⟨_, _, _, e5, .inl h2⟩
        have d67 : ∀ b, f6.ownBlock = some b → f7.ownBlock ≠ some b := fun b h1 h2 => hap 3 5 b (by omega) (by omega) (by omega) ⟨_, _, _, e3, .inl h1⟩ ⟨_, _, _, e5, .inl h2⟩
        have e56 : ∀ b, c5.ownBlock = some b → c6.ownBlock ≠ some b := fun b h1 h2 => hap 1 3 b (by omega) (by omega) (by omega) ⟨_, _, _, e1, .inr h1⟩ ⟨_, _, _, e3, .inr h2⟩
        have e57 : ∀ b, c5.ownBlock = some b → c7.ownBlock ≠ some b := fun b h1 h2 => hap 1 5 b (by omega) (by omega) (by omega) ⟨_, _, _, e1, .inr h1⟩ ⟨_, _, _, e5, .inr h2⟩
        have n56 : b5 ≠ b6 := fun h => hap 6 7 b5 (by omega) (by omega) (by omega) e6 (by rw [h]; exact e7)
        have n57 : b5 ≠ b7 := fun h => hap 6 8 b5 (by omega) (by omega) (by omega) e6 (by rw [h]; exact e8)
        have n67 : b6 ≠ b7 := fun h => hap 7 8 b6 (by omega) (by omega) (by omega) e7 (by rw [h]; exact e8)
        have g5 : gp ≤ b5 := hgp ▸ hnw 6 b5 (by omega) e6
        have g6 : gp ≤ b6 := hgp ▸ hnw 7 b6 (by omega) e7
        have g7 : gp ≤ b7 := hgp ▸ hnw 8 b7 (by omega) e8
        simp only [puts, Act.put, List.setIfInBounds_toArray, List.set_cons_zero, List.set_cons_succ, List.drop_succ_cons, List.drop_zero, Nat.zero_add, Nat.reduceAdd, e0, e1, e2, e3, e4, e5, e6, e7, e8]
        clear hD hap hnw e0 e1 e2 e3 e4 e5 e6 e7 e8
        obtain ⟨p5, n5, m5, rfl⟩ := hf5.slice
        obtain ⟨p6, n6, m6, rfl⟩ := hf6.slice
        obtain ⟨p7, n7, m7, rfl⟩ := hf7.slice
        obtain ⟨q5, l5, k5, rfl⟩ := hc5.slice
        obtain ⟨q6, l6, k6, rfl⟩ := hc6.slice
        obtain ⟨q7, l7, k7, rfl⟩ := hc7.slice
        have st5 := storeH Try.prog hx5 rfl (rawOf H) p5 q5 n5 m5 l5 k5
        have hx6' : (w6.setRow b5 (handR (rawOf H) (.slice p5 n5 m5) (.slice q5 l5 k5))).heap[b6]? = _ := (setRow_ne (fun h => n56 h.symm)).trans hx6
        have st6 := storeH Try.prog hx6' rfl (rawOf H) p6 q6 n6 m6 l6 k6
        have hx7' : ((w6.setRow b5 (handR (rawOf H) (.slice p5 n5 m5) (.slice q5 l5 k5))).setRow b6 (handR (rawOf H) (.slice p6 n6 m6) (.slice q6 l6 k6))).heap[b7]? = _ := (setRow_ne (fun h => n67 h.symm)).trans ((setRow_ne (fun h => n57 h.symm)).trans hx7)
        have st7 := storeH Try.prog hx7' rfl (rawOf H) p7 q7 n7 m7 l7 k7
        go_upto_region 5 with fail
        have hb67 : Below gp w6 (((w6.setRow b5 (handR (rawOf H) (.slice p5 n5 m5) (.slice q5 l5 k5))).setRow b6 (handR (rawOf H) (.slice p6 n6 m6) (.slice q6 l6 k6))).setRow b7 (handR (rawOf H) (.slice p7 n7 m7) (.slice q7 l7 k7))) := ((setRow_below g5).trans (setRow_below g6)).trans (setRow_below g7)
        have y5 : (((w6.setRow b5 (handR (rawOf H) (.slice p5 n5 m5) (.slice q5 l5 k5))).setRow b6 (handR (rawOf H) (.slice p6 n6 m6) (.slice q6 l6 k6))).setRow b7 (handR (rawOf H) (.slice p7 n7 m7) (.slice q7 l7 k7))).heap[b5]? = _ := (setRow_ne n57).trans ((setRow_ne n56).trans (setRow_at hx5))
        have y6 : (((w6.setRow b5 (handR (rawOf H) (.slice p5 n5 m5) (.slice q5 l5 k5))).setRow b6 (handR (rawOf H) (.slice p6 n6 m6) (.slice q6 l6 k6))).setRow b7 (handR (rawOf H) (.slice p7 n7 m7) (.slice q7 l7 k7))).heap[b6]? = _ := (setRow_ne n67).trans (setRow_at hx6')
        have y7 : (((w6.setRow b5 (handR (rawOf H) (.slice p5 n5 m5) (.slice q5 l5 k5))).setRow b6 (handR (rawOf H) (.slice p6 n6 m6) (.slice q6 l6 k6))).setRow b7 (handR (rawOf H) (.slice p7 n7 m7) (.slice q7 l7 k7))).heap[b7]? = _ := setRow_at hx7'
        have key : ∀ k o, w6.heap[k]? = some o → k ≠ b5 → k ≠ b6 → k ≠ b7 → (((w6.setRow b5 (handR (rawOf H) (.slice p5 n5 m5) (.slice q5 l5 k5))).setRow b6 (handR (rawOf H) (.slice p6 n6 m6) (.slice q6 l6 k6))).setRow b7 (handR (rawOf H) (.slice p7 n7 m7) (.slice q7 l7 k7))).heap[k]? = some o := fun k o ho h1 h2 h3 => (setRow_ne h3).trans ((setRow_ne h2).trans ((setRow_ne h1).trans ho))
        generalize ((w6.setRow b5 (handR (rawOf H) (.slice p5 n5 m5) (.slice q5 l5 k5))).setRow b6 (handR (rawOf H) (.slice p6 n6 m6) (.slice q6 l6 k6))).setRow b7 (handR (rawOf H) (.slice p7 n7 m7) (.slice q7 l7 k7)) = w7 at hb67 y5 y6 y7 key ⊢
        have hgg : g < gp := hgp ▸ hg5
        have hwl : ∀ k, ww.ownBlock = some k → k < gp := fun k hk => by obtain ⟨_, cs, h⟩ := HW5.out.own k hk; exact hgp ▸ heap_lt h
        have kept : ∀ k o, w5.heap[k]? = some o → w7.heap[k]? = some o := fun k o ho => by
          have h1 : k < gp := hgp ▸ heap_lt ho
          exact key k o (heap_below hb6 ho (heap_lt ho)) (by omega) (by omega) (by omega)
        have keptF : ∀ {v : Value} {fs : List (Int × Int)}, FO w6 gp v fs → FO w7 gp v fs := fun {v fs} h => h.kept fun k o hk ho => by
          obtain ⟨_, cs, h2⟩ := h.own k hk
          exact key k o ho (fun e => by rw [e, hx5] at h2; cases h2) (fun e => by rw [e, hx6] at h2; cases h2) (fun e => by rw [e, hx7] at h2; cases h2)
        have keptC : ∀ {v : Value} {xs : List Int}, Ints w6 gp v xs → Ints w7 gp v xs := fun {v xs} h => h.kept fun k o hk ho => by
          obtain ⟨_, cs, h2⟩ := h.own k hk
          exact key k o ho (fun e => by rw [e, hx5] at h2; cases h2) (fun e => by rw [e, hx6] at h2; cases h2) (fun e => by rw [e, hx7] at h2; cases h2)
        have hw4 : g ≤ w4.heap.size := Nat.le_of_lt hg4
        have HT := hid (show TurnI g w (rawOf H) fv cv gp ee ww b5 b6 b7 (handR (rawOf H) (.slice p5 n5 m5) (.slice q5 l5 k5)) (handR (rawOf H) (.slice p6 n6 m6) (.slice q6 l6 k6)) (handR (rawOf H) (.slice p7 n7 m7) (.slice q7 l7 k7)) (.slice p5 n5 m5) (.slice p6 n6 m6) (.slice p7 n7 m7) (.slice q5 l5 k5) (.slice q6 l6 k6) (.slice q7 l7 k7) (rawOf H).faces (rawOf H).faces (rawOf H).faces (rawOf H).cards (rawOf H).cards (rawOf H).cards w7 from
          ⟨(HB5.out.trans (hb6.mono (by omega))).trans (hb67.mono (by omega)), kept _ _ HX5.out, (HW5.out.mono hw4).kept fun ob o _ ho => kept ob o ho, Nat.le_trans (hgp ▸ hb6.size) hb67.size, y5, y6, y7, keptF hf5, keptF hf6, keptF hf7, keptC hc5, keptC hc6, keptC hc7⟩)
        have HS := hid (show TurnS g gp ww b5 b6 b7 (.slice p5 n5 m5) (.slice p6 n6 m6) (.slice p7 n7 m7) (.slice q5 l5 k5) (.slice q6 l6 k6) (.slice q7 l7 k7) from ⟨hgg, hwl, d56, d57, d67, e56, e57, n56, n57, n67, g5, g6, g7⟩)
        clear hb67 y5 y6 y7 key hwl kept keptF keptC hw4 d56 d57 d67 e56 e57 n56 n57 n67 g5 g6 g7 hf5 hf6 hf7 hc5 hc6 hc7 hx5 hx6 hx7 hx6' hx7' st5 st6 st7 hb6 HX5 HB5 HW5 hg4 hg5 hgp hgg
        have hfe := HFE.out
        have hce := HCE.out
        subst hfe
        subst hce
        obtain ⟨n, hn⟩ : ∃ n, (rawOf H).faces.length = n := ⟨_, rfl⟩
        obtain ⟨m, hm⟩ : ∃ m, (rawOf H).cards.length = m := ⟨_, rfl⟩
        have HN := hid hn
        have HM := hid hm
        rw [hn] at hlf
        rw [hm] at hlc
        have HFL := hid (faces_small HVL.out)
        rw [hn] at HT HRF
        rw [hm] at HT HRC
        simp only [hn, hm]
        clear hn hm HFE HCE
        obtain ⟨od, hod⟩ : ∃ od : Nat → Int × Int, (fun j => (rawOf H).faces.getD j (0, 0)) = od := ⟨_, rfl⟩
        have HOD := hid (show ∀ j (h : j < (rawOf H).faces.length), (rawOf H).faces[j] = od j from fun j h => by rw [← hod]; simp only [List.getD_eq_getElem?_getD, List.getElem?_eq_getElem h, Option.getD_some])
        have HM0 := hid (show ∀ new : Nat → Int × Int, mixL new od n 0 = (rawOf H).faces from fun new => by rw [← hod, ← HN.out]; exact mix_zero new _ _)
        have HM1 := hid (show ∀ f : Int × Int → Int × Int, ((List.range n).map fun j => f (od j)) = (rawOf H).faces.map f from fun f => by rw [← hod, ← HN.out]; exact map_get _ _ f)
        have HM2 := hid (show ((List.range n).map fun j => od (n - 1 - j)) = (rawOf (backH H)).faces from by rw [(raw_back H).1, ← hod, ← HN.out]; exact rev_get _ _)
        obtain ⟨ok, hok2⟩ : ∃ ok : Nat → Int, (fun j => (rawOf H).cards.getD j 0) = ok := ⟨_, rfl⟩
        have HOK := hid (show ∀ j (h : j < (rawOf H).cards.length), (rawOf H).cards[j] = ok j from fun j h => by rw [← hok2]; simp only [List.getD_eq_getElem?_getD, List.getElem?_eq_getElem h, Option.getD_some])
        have HC0 := hid (show ∀ new : Nat → Int, mixL new ok m 0 = (rawOf H).cards from fun new => by rw [← hok2, ← HM.out]; exact mix_zero new _ _)
        have HC2 := hid (show ((List.range m).map fun j => ok (m - 1 - j)) = (rawOf (backH H)).cards from by rw [(raw_back H).2, ← hok2, ← HM.out]; exact rev_get _ _)
        clear hod hok2
        go_wp2_with fail
        go_loopw [8] (fun ix wr => ∃ i : Nat, i ≤ n ∧ ix = .int .i64 ((i : Nat) : Int) ∧ TurnI g w (rawOf H) (.slice pf n cf) (.slice pc m cc) gp ee ww b5 b6 b7 (handR (rawOf H) (.slice p5 n5 m5) (.slice q5 l5 k5)) (handR (rawOf H) (.slice p6 n6 m6) (.slice q6 l6 k6)) (handR (rawOf H) (.slice p7 n7 m7) (.slice q7 l7 k7)) (.slice p5 n5 m5) (.slice p6 n6 m6) (.slice p7 n7 m7) (.slice q5 l5 k5) (.slice q6 l6 k6) (.slice q7 l7 k7) (mixL (fun j => od (n - 1 - j)) od n i) (mixL (fun j => ((od j).1, 2 * (od j).2)) od n i) (mixL (fun j => ((od j).1 + 1, (od j).2)) od n i) (rawOf H).cards (rawOf H).cards (rawOf H).cards wr) (fun ix _ => n - (intOf ix).toNat)
        case atStart => exact ⟨0, by omega, rfl, by rw [HM0.out, HM0.out, HM0.out]; exact HT.out⟩
        case round =>
          clear HT
          obtain ⟨i, hi, rfl, hT⟩ := hrel
          rcases Nat.lt_or_ge i n with hlt | hge
          · have hin : decide (((i : Nat) : Int) < ((n : Nat) : Int)) = true := decide_eq_true (by omega)
            have hin' : ((i : Nat) : Int) < ((n : Nat) : Int) := by omega
            have hi0 : (0 : Int) ≤ ((i : Nat) : Int) := by omega
            obtain ⟨r, hr⟩ : ∃ r, r + i + 1 = n := ⟨n - 1 - i, by omega⟩
            have hr0 : (0 : Int) ≤ ((r : Nat) : Int) := by omega
            have hrn : ((r : Nat) : Int) < ((n : Nat) : Int) := by omega
            have hw1 : IntKind.i64.wrap (((n : Nat) : Int) - 1) = ((r + i : Nat) : Int) := (IntWalk.i64_in _ (by omega)).trans (by omega)
            have hw2 : IntKind.i64.wrap (((r + i : Nat) : Int) - ((i : Nat) : Int)) = ((r : Nat) : Int) := (IntWalk.i64_in _ (by omega)).trans (by omega)
            obtain ⟨ri, hri⟩ : ∃ ri, r + i = ri := ⟨_, rfl⟩
            rw [hri] at hw1 hw2
            have hR2 := (RawAt.came HRF.out HRC.out).below (hg ▸ hT.bel)
            obtain ⟨p', c', e', hfc⟩ := hR2.faces
            rw [HN.out] at e'
            injection e' with e1 _ e3
            subst e1
            subst e3
            obtain ⟨bh, oh, hpf, hbN, c1, c2⟩ := hfc r (by rw [HN.out]; omega)
            have hEL : ∀ W, Below g w W → ∀ j, j < n → W.cell? ⟨bh, oh + j * 2, none⟩ = some (.int .i64 (od j).1) ∧ W.cell? ⟨bh, oh + j * 2 + 1, none⟩ = some (.int .i64 (od j).2) := fun W hW j hj => by
              obtain ⟨p2, c2', e2', hfc'⟩ := ((RawAt.came HRF.out HRC.out).below (hg ▸ hW)).faces
              rw [HN.out] at e2'
              injection e2' with e1 _ _
              rw [hpf] at e1
              subst e1
              obtain ⟨b', o', hb', _, d1, d2⟩ := hfc' j (by rw [HN.out]; omega)
              injection hb' with hb'
              injection hb' with e1 e2 _
              subst e1
              subst e2
              rw [HOD.out] at d1 d2
              exact ⟨d1, d2⟩
            have HEL := hid hEL
            subst hpf
            clear hEL c1 c2 hbN
            obtain ⟨z1, hz1⟩ : ∃ z1, od r = z1 := ⟨_, rfl⟩
            obtain ⟨z2, hz2⟩ : ∃ z2, od i = z2 := ⟨_, rfl⟩
            have hsm := HFL.out z2 (by rw [← hz2, ← HOD.out i (by rw [HN.out]; omega)]; exact List.getElem_mem _)
            obtain ⟨x1, y1⟩ := z1
            obtain ⟨x2, y2⟩ := z2
            have HZ1 := hid hz1
            have HZ2 := hid hz2
            obtain ⟨⟨hs1, hs2⟩, hs3, hs4⟩ := hsm
            simp only at hs1 hs2 hs3 hs4
            obtain ⟨x5, hx5, e5⟩ := hT.k5.form (by rw [mix_len]; omega)
            obtain ⟨x6, hx6, e6⟩ := hT.k6.form (by rw [mix_len]; omega)
            obtain ⟨x7, hx7, e7⟩ := hT.k7.form (by rw [mix_len]; omega)
            rw [mix_len] at e5 e6 e7
            subst hx5
            subst hx6
            subst hx7
            subst e5
            subst e6
            subst e7
            have cg : wr.cell? ⟨g, 2, none⟩ = some (.slice (some ⟨bh, oh, none⟩) n cf) := cell_of_row wr g 2 _ _ _ hT.hx
            have cb : wr.cell? ⟨b5, 2, none⟩ = some (.slice (some ⟨x5, 0, none⟩) n m5) := cell_of_row wr b5 2 _ _ _ hT.x5
            obtain ⟨t1, t2, fz1, fz2, hgx⟩ := hT.k5.cells i (by rw [mix_len]; omega)
            obtain ⟨c1, c2⟩ := HEL.out wr hT.bel r (by omega)
            rw [hz1] at c1 c2
            have HT1 := hid hT
            clear hT hfc hR2 hz1 hz2
            go_upto_region 8 with fail
            go_still_tail 13, (by kernel_rfl)
            go_upto_region 9 with fail
            have hT8 := (HT1.out.set5 (q := x5) (W' := (wr.setCell ⟨x5, i * 2, none⟩ (.int .i64 x1)).setCell ⟨x5, i * 2 + 1, none⟩ (.int .i64 y1)) (F' := mixL (fun j => od (n - 1 - j)) od n (i + 1)) HS.out rfl
              (fun k o hk ho => (heap_setCell_other _ ⟨x5, i * 2 + 1, none⟩ k _ hk).trans ((heap_setCell_other wr ⟨x5, i * 2, none⟩ k _ hk).trans ho)) (((Below.refl _ _).setCell (p := ⟨x5, i * 2, none⟩) hgx _).setCell (p := ⟨x5, i * 2 + 1, none⟩) hgx _)
              (by
                have h := HT1.out.k5.set i (by rw [mix_len]; omega) x1 y1
                rw [mix_set _ _ _ _ _ (by rw [show n - 1 - i = r by omega, HZ1.out])] at h
                exact h)).below (W' := ((wr.setCell ⟨x5, i * 2, none⟩ (.int .i64 x1)).setCell ⟨x5, i * 2 + 1, none⟩ (.int .i64 y1)).drew) ⟨rfl, rfl, rfl, Nat.le_refl _, fun _ _ => rfl⟩
            generalize ((wr.setCell ⟨x5, i * 2, none⟩ (.int .i64 x1)).setCell ⟨x5, i * 2 + 1, none⟩ (.int .i64 y1)).drew = w8 at hT8 ⊢
            clear HT1 t1 t2 fz1 fz2 hgx c1 c2 cg cb hw1 hw2
            have cg : w8.cell? ⟨g, 2, none⟩ = some (.slice (some ⟨bh, oh, none⟩) n cf) := cell_of_row w8 g 2 _ _ _ hT8.hx
            have cb : w8.cell? ⟨b6, 2, none⟩ = some (.slice (some ⟨x6, 0, none⟩) n m6) := cell_of_row w8 b6 2 _ _ _ hT8.x6
            obtain ⟨t1, t2, fz1, fz2, hgx⟩ := hT8.k6.cells i (by rw [mix_len]; omega)
            have t3 : (mixL (fun j => ((od j).1, 2 * (od j).2)) od n i)[i]'(by rw [mix_len]; omega) = (x2, y2) := by rw [mix_get, if_neg (by omega), HZ2.out]
            rw [t3] at t1 t2
            obtain ⟨c1, c2⟩ := HEL.out w8 hT8.bel i (by omega)
            rw [HZ2.out] at c1 c2
            have hw1 : IntKind.i64.wrap (2 * y2) = 2 * y2 := IntWalk.i64_in _ (by omega)
            have HT1 := hid hT8
            have HT3 := hid t3
            clear hT8 t3
            go_still_tail 10, (by kernel_rfl)
            go_upto_region 10 with fail
            have hT9 := (HT1.out.set6 (q := x6) (W' := w8.setCell ⟨x6, i * 2 + 1, none⟩ (.int .i64 (2 * y2))) (F' := mixL (fun j => ((od j).1, 2 * (od j).2)) od n (i + 1)) HS.out rfl
              (fun k o hk ho => (heap_setCell_other w8 ⟨x6, i * 2 + 1, none⟩ k _ hk).trans ho) ((Below.refl _ _).setCell (p := ⟨x6, i * 2 + 1, none⟩) hgx _)
              (by
                have h := HT1.out.k6.set2 i (by rw [mix_len]; omega) (2 * y2)
                rw [HT3.out, mix_set _ _ _ _ _ (by rw [HZ2.out])] at h
                exact h)).below (W' := (w8.setCell ⟨x6, i * 2 + 1, none⟩ (.int .i64 (2 * y2))).drew) ⟨rfl, rfl, rfl, Nat.le_refl _, fun _ _ => rfl⟩
            generalize (w8.setCell ⟨x6, i * 2 + 1, none⟩ (.int .i64 (2 * y2))).drew = w9 at hT9 ⊢
            clear HT1 HT3 t1 t2 fz1 fz2 hgx c1 c2 cg cb hw1
            have cg : w9.cell? ⟨g, 2, none⟩ = some (.slice (some ⟨bh, oh, none⟩) n cf) := cell_of_row w9 g 2 _ _ _ hT9.hx
            have cb : w9.cell? ⟨b7, 2, none⟩ = some (.slice (some ⟨x7, 0, none⟩) n m7) := cell_of_row w9 b7 2 _ _ _ hT9.x7
            obtain ⟨t1, t2, fz1, fz2, hgx⟩ := hT9.k7.cells i (by rw [mix_len]; omega)
            have t3 : (mixL (fun j => ((od j).1 + 1, (od j).2)) od n i)[i]'(by rw [mix_len]; omega) = (x2, y2) := by rw [mix_get, if_neg (by omega), HZ2.out]
            rw [t3] at t1 t2
            obtain ⟨c1, c2⟩ := HEL.out w9 hT9.bel i (by omega)
            rw [HZ2.out] at c1 c2
            have hw1 : IntKind.i64.wrap (x2 + 1) = x2 + 1 := IntWalk.i64_in _ (by omega)
            have HT1 := hid hT9
            have HT3 := hid t3
            clear hT9 t3
            go_still_tail 10, (by kernel_rfl)
            have hT10 := (HT1.out.set7 (q := x7) (W' := w9.setCell ⟨x7, i * 2, none⟩ (.int .i64 (x2 + 1))) (F' := mixL (fun j => ((od j).1 + 1, (od j).2)) od n (i + 1)) HS.out rfl
              (fun k o hk ho => (heap_setCell_other w9 ⟨x7, i * 2, none⟩ k _ hk).trans ho) ((Below.refl _ _).setCell (p := ⟨x7, i * 2, none⟩) hgx _)
              (by
                have h := HT1.out.k7.set1 i (by rw [mix_len]; omega) (x2 + 1)
                rw [HT3.out, mix_set _ _ _ _ _ (by rw [HZ2.out])] at h
                exact h)).below (W' := (w9.setCell ⟨x7, i * 2, none⟩ (.int .i64 (x2 + 1))).drew) ⟨rfl, rfl, rfl, Nat.le_refl _, fun _ _ => rfl⟩
            have HT10 := hid hT10
            have hiw : IntKind.i64.wrap (((i : Nat) : Int) + 1) = ((i + 1 : Nat) : Int) := (IntWalk.i64_in _ (by omega)).trans (by omega)
            clear HT1 HT3 hT10 HEL HZ1 HZ2
            go_wp2_with fail
            go_roundw
            case rel => exact ⟨i + 1, by omega, rfl, HT10.out⟩
            case measure => simp only [intOf, Int.toNat_natCast]; omega
          · have e : n = i := by omega
            subst e
            have hin : decide (((n : Nat) : Int) < ((n : Nat) : Int)) = false := decide_eq_false (by omega)
            rw [mix_full, mix_full, mix_full, HM2.out, HM1.out fun z => (z.1, 2 * z.2), HM1.out fun z => (z.1 + 1, z.2), ← raw_twice, ← raw_more] at hT
            have cg : wr.cell? ⟨g, 2, none⟩ = some (.slice pf n cf) := cell_of_row wr g 2 _ _ _ hT.hx
            have HT := hid hT
            clear hT hi HOD HM0 HM1 HM2 HFL
            go_wp2_with fail
            go_loopw [9] (fun ix wr => ∃ i : Nat, i ≤ m ∧ ix = .int .i64 ((i : Nat) : Int) ∧ TurnI g w (rawOf H) (.slice pf n cf) (.slice pc m cc) gp ee ww b5 b6 b7 (handR (rawOf H) (.slice p5 n5 m5) (.slice q5 l5 k5)) (handR (rawOf H) (.slice p6 n6 m6) (.slice q6 l6 k6)) (handR (rawOf H) (.slice p7 n7 m7) (.slice q7 l7 k7)) (.slice p5 n5 m5) (.slice p6 n6 m6) (.slice p7 n7 m7) (.slice q5 l5 k5) (.slice q6 l6 k6) (.slice q7 l7 k7) (rawOf (backH H)).faces (rawOf (twiceH H)).faces (rawOf (moreH H)).faces (mixL (fun j => ok (m - 1 - j)) ok m i) (rawOf H).cards (rawOf H).cards wr) (fun ix _ => m - (intOf ix).toNat)
            case atStart => exact ⟨0, by omega, rfl, by rw [HC0.out]; exact HT.out⟩
            case round =>
              clear HT cg
              obtain ⟨i, hi, rfl, hT⟩ := hrel
              rcases Nat.lt_or_ge i m with hlt | hge
              · have hin : decide (((i : Nat) : Int) < ((m : Nat) : Int)) = true := decide_eq_true (by omega)
                have hin' : ((i : Nat) : Int) < ((m : Nat) : Int) := by omega
                have hi0 : (0 : Int) ≤ ((i : Nat) : Int) := by omega
                obtain ⟨r, hr⟩ : ∃ r, r + i + 1 = m := ⟨m - 1 - i, by omega⟩
                have hr0 : (0 : Int) ≤ ((r : Nat) : Int) := by omega
                have hrn : ((r : Nat) : Int) < ((m : Nat) : Int) := by omega
                have hw1 : IntKind.i64.wrap (((m : Nat) : Int) - 1) = ((r + i : Nat) : Int) := (IntWalk.i64_in _ (by omega)).trans (by omega)
                have hw2 : IntKind.i64.wrap (((r + i : Nat) : Int) - ((i : Nat) : Int)) = ((r : Nat) : Int) := (IntWalk.i64_in _ (by omega)).trans (by omega)
                obtain ⟨ri, hri⟩ : ∃ ri, r + i = ri := ⟨_, rfl⟩
                rw [hri] at hw1 hw2
                have hR2 := (RawAt.came HRF.out HRC.out).below (hg ▸ hT.bel)
                obtain ⟨p', c', e', hfc⟩ := hR2.cards
                rw [HM.out] at e'
                injection e' with e1 _ e3
                subst e1
                subst e3
                obtain ⟨bh, oh, hpf, hbN, c1⟩ := hfc r (by rw [HM.out]; omega)
                subst hpf
                rw [HOK.out] at c1
                obtain ⟨z1, hz1⟩ : ∃ z1, ok r = z1 := ⟨_, rfl⟩
                rw [hz1] at c1
                obtain ⟨x5, hx5, e5⟩ := hT.l5.form2 (by rw [mix_len]; omega)
                rw [mix_len] at e5
                subst hx5
                subst e5
                have cg : wr.cell? ⟨g, 7, none⟩ = some (.slice (some ⟨bh, oh, none⟩) m cc) := cell_of_row wr g 7 _ _ _ hT.hx
                have cb : wr.cell? ⟨b5, 7, none⟩ = some (.slice (some ⟨x5, 0, none⟩) m k5) := cell_of_row wr b5 7 _ _ _ hT.x5
                obtain ⟨t1, fz1, hgx⟩ := hT.l5.cells i (by rw [mix_len]; omega)
                have HT1 := hid hT
                have HZ1 := hid hz1
                clear hT hfc hR2 hz1
                go_upto_region 14 with fail
                go_still_tail 13, (by kernel_rfl)
                have hT8 := (HT1.out.setc (q := x5) (W' := wr.setCell ⟨x5, i, none⟩ (.int .i64 z1)) (C' := mixL (fun j => ok (m - 1 - j)) ok m (i + 1)) HS.out rfl
                  (fun k o hk ho => (heap_setCell_other wr ⟨x5, i, none⟩ k _ hk).trans ho) ((Below.refl _ _).setCell (p := ⟨x5, i, none⟩) hgx _)
                  (by
                    have h := HT1.out.l5.set i (by rw [mix_len]; omega) z1
                    rw [mix_set _ _ _ _ _ (by rw [show m - 1 - i = r by omega, HZ1.out])] at h
                    exact h)).below (W' := (wr.setCell ⟨x5, i, none⟩ (.int .i64 z1)).drew) ⟨rfl, rfl, rfl, Nat.le_refl _, fun _ _ => rfl⟩
                have HT10 := hid hT8
                have hiw : IntKind.i64.wrap (((i : Nat) : Int) + 1) = ((i + 1 : Nat) : Int) := (IntWalk.i64_in _ (by omega)).trans (by omega)
                clear HT1 hT8 HZ1
                go_wp2_with fail
                go_roundw
                case rel => exact ⟨i + 1, by omega, rfl, HT10.out⟩
                case measure => simp only [intOf, Int.toNat_natCast]; omega
              · have e : m = i := by omega
                subst e
                have hin : decide (((m : Nat) : Int) < ((m : Nat) : Int)) = false := decide_eq_false (by omega)
                rw [mix_full, HC2.out] at hT
                have cg : wr.cell? ⟨g, 7, none⟩ = some (.slice pc m cc) := cell_of_row wr g 7 _ _ _ hT.hx
                have HT := hid hT
                clear hT hi HOK HC0 HC2
                go_upto_region 15 with fail
                have ⟨k0, k1, k2, k3, k4, k5', k6', k7'⟩ := cells8 HT.out.hx
                go_upto_if 104 with fail
                clear k0 k1 k2 k3 k4 k5' k6' k7' cg
                go_cut [] from 104 to 112 (fun wx => TurnI g w (rawOf H) (.slice pf n cf) (.slice pc m cc) gp ee ww b5 b6 b7 (handR (rawOf (backH H)) (.slice p5 n5 m5) (.slice q5 l5 k5)) (handR (rawOf H) (.slice p6 n6 m6) (.slice q6 l6 k6)) (handR (rawOf H) (.slice p7 n7 m7) (.slice q7 l7 k7)) (.slice p5 n5 m5) (.slice p6 n6 m6) (.slice p7 n7 m7) (.slice q5 l5 k5) (.slice q6 l6 k6) (.slice q7 l7 k7) (rawOf (backH H)).faces (rawOf (twiceH H)).faces (rawOf (moreH H)).faces (rawOf (backH H)).cards (rawOf H).cards (rawOf H).cards wx)
                case first =>
                  by_cases hk2 : (rawOf H).kind = 2
                  · have q1 : ((rawOf H).kind == 2) = true := by simp [hk2]
                    have hkn : H.kind = 2 := by have : ((H.kind : Nat) : Int) = 2 := hk2; omega
                    have hbd : 0 ≤ H.lowI ∧ H.lowI ≤ 1000 ∧ 0 ≤ H.highI ∧ H.highI ≤ 1000 := by
                      rcases HVL.out.hand.ok with ⟨h, _⟩ | ⟨_, h1, h2, h3⟩ | ⟨h, _⟩ | ⟨h, _⟩ | ⟨h, _⟩
                      · omega
                      · unfold HV.low HV.high at *; omega
                      all_goals omega
                    have hw1 : IntKind.i64.wrap (H.lowI + 2) = H.lowI + 2 := IntWalk.i64_in _ (by omega)
                    have hw2 : IntKind.i64.wrap (H.highI + 2) = H.highI + 2 := IntWalk.i64_in _ (by omega)
                    have HK2 := hid hkn
                    clear hk2 hkn hbd
                    go_upto_region 16 with fail
                    have hS0 : wr.drew.heap[g]? = some (.cells (handR (rawOf H) (.slice pf n cf) (.slice pc m cc)) 26 (0, 0)) := HT.out.hx
                    have hx5 : wr.drew.heap[b5]? = _ := HT.out.x5
                    have hgb : g ≠ b5 := by have := HS.out.lt; have := HS.out.g5; omega
                    refine regD (fun Y => Y.heap[g]? = some (.cells (handR (rawOf H) (.slice pf n cf) (.slice pc m cc)) 26 (0, 0))) (fun _ => true) (by kernel_rfl) ?_
                    refine takeE (i := 0) (.pointer (some ⟨g, 3, none⟩)) (d := some 105) rfl (by kernel_rfl) (by kernel_rfl) (by kernel_rfl) (by kernel_rfl) (fun _ _ _ h => h) rfl (fun Y hY => by exact exec_fldI rfl rfl (.inl ⟨rfl, rfl⟩)) hS0 rfl ?_
                    simp only [Act.put, List.setIfInBounds_toArray, List.set_cons_zero, List.set_cons_succ]
                    refine takeE (i := 1) (.int .i64 H.lowI) (d := some 106) rfl (by kernel_rfl) (by kernel_rfl) (by kernel_rfl) (by kernel_rfl) (fun _ _ _ h => h) rfl (fun Y hY => by exact exec_ldN rfl rfl (cell_of_row Y g 3 _ _ _ hY)) hS0 rfl ?_
                    simp only [Act.put, List.setIfInBounds_toArray, List.set_cons_zero, List.set_cons_succ]
                    refine takeE (i := 2) (.int .i64 (H.lowI + 2)) (d := some 107) rfl (by kernel_rfl) (by kernel_rfl) (by kernel_rfl) (by kernel_rfl) (fun _ _ _ h => h) rfl (fun Y hY => by exact exec_add2 rfl rfl rfl hw1) hS0 rfl ?_
                    simp only [Act.put, List.setIfInBounds_toArray, List.set_cons_zero, List.set_cons_succ]
                    refine takeE (i := 3) (.pointer (some ⟨g, 4, none⟩)) (d := some 108) rfl (by kernel_rfl) (by kernel_rfl) (by kernel_rfl) (by kernel_rfl) (fun _ _ _ h => h) rfl (fun Y hY => by exact exec_fldI rfl rfl (.inr ⟨rfl, rfl⟩)) hS0 rfl ?_
                    simp only [Act.put, List.setIfInBounds_toArray, List.set_cons_zero, List.set_cons_succ]
                    refine takeE (i := 4) (.int .i64 H.highI) (d := some 109) rfl (by kernel_rfl) (by kernel_rfl) (by kernel_rfl) (by kernel_rfl) (fun _ _ _ h => h) rfl (fun Y hY => by exact exec_ldN rfl rfl (cell_of_row Y g 4 _ _ _ hY)) hS0 rfl ?_
                    simp only [Act.put, List.setIfInBounds_toArray, List.set_cons_zero, List.set_cons_succ]
                    refine takeE (i := 5) (.int .i64 (H.highI + 2)) (d := some 110) rfl (by kernel_rfl) (by kernel_rfl) (by kernel_rfl) (by kernel_rfl) (fun _ _ _ h => h) rfl (fun Y hY => by exact exec_add2 rfl rfl rfl hw2) hS0 rfl ?_
                    simp only [Act.put, List.setIfInBounds_toArray, List.set_cons_zero, List.set_cons_succ]
                    refine takeE (i := 6) (.pointer (some ⟨b5, 3, none⟩)) (d := some 111) rfl (by kernel_rfl) (by kernel_rfl) (by kernel_rfl) (by kernel_rfl) (fun _ _ _ h => h) rfl (fun Y hY => by exact exec_fldI rfl rfl (.inl ⟨rfl, rfl⟩)) hS0 rfl ?_
                    simp only [Act.put, List.setIfInBounds_toArray, List.set_cons_zero, List.set_cons_succ]
                    have ca : wr.drew.cell? ⟨b5, 3, none⟩ = some (.int .i64 H.lowI) := cell_of_row _ b5 3 _ _ _ hx5
                    have fa : wr.drew.frozen? ⟨b5, 3, none⟩ = false := frozen_of_row _ _ 3 _ _ hx5
                    have hSa : (wr.drew.setCell ⟨b5, 3, none⟩ (.int .i64 (H.lowI + 2))).heap[b5]? = _ := heap_setCell_same _ _ _ _ _ _ hx5
                    have hS1 : (wr.drew.setCell ⟨b5, 3, none⟩ (.int .i64 (H.lowI + 2))).heap[g]? = _ := (heap_setCell_other _ ⟨b5, 3, none⟩ g _ hgb).trans hS0
                    refine stepD 7 (by kernel_rfl) rfl rfl (fun K hK => ?_)
                    go_simp
                    refine hK _ _ (fun _ => hS1) ?_
                    clear hK K
                    refine stepD 8 (by kernel_rfl) rfl rfl (fun K hK => ?_)
                    go_simp
                    refine hK _ _ (fun _ => hS1) ?_
                    clear hK K
                    have cb : (wr.drew.setCell ⟨b5, 3, none⟩ (.int .i64 (H.lowI + 2))).cell? ⟨b5, 4, none⟩ = some (.int .i64 H.highI) := cell_of_row _ b5 4 _ _ _ hSa
                    have fb : (wr.drew.setCell ⟨b5, 3, none⟩ (.int .i64 (H.lowI + 2))).frozen? ⟨b5, 4, none⟩ = false := frozen_of_row _ _ 4 _ _ hSa
                    have cb0 : wr.drew.cell? ⟨b5, 4, none⟩ = some (.int .i64 H.highI) := cell_of_row _ b5 4 _ _ _ hx5
                    have fb0 : wr.drew.frozen? ⟨b5, 4, none⟩ = false := frozen_of_row _ _ 4 _ _ hx5
                    have cb1 : wr.cell? ⟨b5, 4, none⟩ = some (.int .i64 H.highI) := cell_of_row _ b5 4 _ _ _ HT.out.x5
                    have fb1 : wr.frozen? ⟨b5, 4, none⟩ = false := frozen_of_row _ _ 4 _ _ HT.out.x5
                    have hSb : ((wr.drew.setCell ⟨b5, 3, none⟩ (.int .i64 (H.lowI + 2))).setCell ⟨b5, 4, none⟩ (.int .i64 (H.highI + 2))).heap[b5]? = _ := heap_setCell_same _ _ _ _ _ _ hSa
                    have hS2 : ((wr.drew.setCell ⟨b5, 3, none⟩ (.int .i64 (H.lowI + 2))).setCell ⟨b5, 4, none⟩ (.int .i64 (H.highI + 2))).heap[g]? = _ := (heap_setCell_other _ ⟨b5, 4, none⟩ g _ hgb).trans hS1
                    refine stepD 9 (by kernel_rfl) rfl rfl (fun K hK => ?_)
                    go_simp
                    refine hK _ _ (fun _ => hS2) ?_
                    clear hK K
                    refine doneD (by kernel_rfl) ?_ _
                    refine OnlyNorm.normal ?_
                    have HTd := HT.out.below (W' := wr.drew) ⟨rfl, rfl, rfl, Nat.le_refl _, fun _ _ => rfl⟩
                    have HTe := HTd.setb (q := b5) HS.out rfl (fun k o hk ho => (heap_setCell_other _ ⟨b5, 4, none⟩ k _ hk).trans ((heap_setCell_other _ ⟨b5, 3, none⟩ k _ hk).trans ho)) (((Below.refl _ _).setCell (p := ⟨b5, 3, none⟩) HS.out.g5 _).setCell (p := ⟨b5, 4, none⟩) HS.out.g5 _) hSb
                    rw [show ((handR (rawOf H) (.slice p5 n5 m5) (.slice q5 l5 k5)).setIfInBounds 3 (.int .i64 (H.lowI + 2))).setIfInBounds 4 (.int .i64 (H.highI + 2)) = handR (rawOf (backH H)) (.slice p5 n5 m5) (.slice q5 l5 k5) from (back_row2 H _ _ HK2.out).symm] at HTe
                    go_step
                    go_step
                    go_meet
                    case rel => exact HTe
                  · have q1 : ((rawOf H).kind == 2) = false := by simp [hk2]
                    have hkn : H.kind ≠ 2 := fun h => hk2 (by show ((H.kind : Nat) : Int) = 2; omega)
                    have HT2 := HT.out
                    rw [← back_row H _ _ hkn] at HT2
                    have HT := hid HT2
                    clear hk2 hkn HT2
                    go_wp2_with fail
                    go_meet
                    case rel => exact HT.out
                case rest =>
                  have HT := hid hcut
                  clear hcut
                  go_upto_region 18 with (first
                    | (refine wpList_value rfl (by intro c hc; cases hc) (.agg (handR (rawOf (backH H)) (.slice p5 n5 m5) (.slice q5 l5 k5))) (exec_ldR rfl rfl HT.out.x5) ?_)
                    | (go_at_call 15; refine (own_c (rawOf (backH H)) _ _ _ HT.out.k5.reads HT.out.l5.readsA (by have := HLB.out.1; omega) (by have := HLB.out.2; omega)).mono ?_; rintro e wa ⟨fx, cx, rfl, hfx, hcx, hbx⟩; have HTa := hid (HT.out.below hbx))
                    | (go_at_call 14; refine (wtsR_c (rawOf (backH H)) fx cx wa hfx.reads hcx.readsA (by have := HLB.out.1; omega) (by have := HLB.out.2; omega)).mono ?_; rintro e wb ⟨aa, ea, rfl, hwa, hbz⟩; have HTb := hid (HTa.out.below hbz); have HWA := hid hwa; clear hfx hcx hbx hwa hbz))
                  go_cut [144] from 119 to 144 (fun c wx => c = .bool false ∧ TurnI g w (rawOf H) (.slice pf n cf) (.slice pc m cc) gp ee ww b5 b6 b7 (handR (rawOf (backH H)) (.slice p5 n5 m5) (.slice q5 l5 k5)) (handR (rawOf H) (.slice p6 n6 m6) (.slice q6 l6 k6)) (handR (rawOf H) (.slice p7 n7 m7) (.slice q7 l7 k7)) (.slice p5 n5 m5) (.slice p6 n6 m6) (.slice p7 n7 m7) (.slice q5 l5 k5) (.slice q6 l6 k6) (.slice q7 l7 k7) (rawOf (backH H)).faces (rawOf (twiceH H)).faces (rawOf (moreH H)).faces (rawOf (backH H)).cards (rawOf H).cards (rawOf H).cards wx)
                  case first =>
                    have ⟨hS, hdq⟩ := turned_back H HVL.out
                    have hbv := back_val H HVL.out
                    have ⟨k0, k1, k2, k3, k4, k5', k6', k7'⟩ := cells8 HTb.out.hx
                    rcases wt_same HVL.out hS HTb.out.wt HWA.out with ⟨h1, h2, h3⟩ | ⟨h1, h2, h3⟩ | ⟨h1, h3, xs, hxl, hrw, hrb⟩
                    · have hk2 : (rawOf H).kind = 2 := Classical.byContradiction fun hn => by
                        have h4 := (hbv (fun h => hn (by show ((H.kind : Nat) : Int) = 2; omega))).ok
                        rw [h2] at h4
                        cases h4
                      have q1 : (((ea : Nat) : Int) == 0) = false := by simp; omega
                      have q2 : (((ea : Nat) : Int) != 0) = true := by simp; omega
                      have q3 : (((ea : Nat) : Int) != ((ee : Nat) : Int)) = true := by simp; omega
                      have q4 : ((rawOf H).kind != 2) = false := by simp [hk2]
                      clear h1 h2 h3 hk2 hS hdq hbv
                      go_wp2_with fail
                      go_meet
                      case rel => exact ⟨rfl, HTb.out⟩
                    · have h4 : ee = 8 := by
                        rcases h3 with h3 | h3
                        · exfalso
                          rcases HTb.out.wt with ⟨h, _⟩ | ⟨h, _⟩ | ⟨_, _, _, h, _⟩
                          · omega
                          · omega
                          · rw [toH_raw] at h
                            rw [hdq] at h2
                            exact h2 h
                        · exact h3
                      have q1 : (((ea : Nat) : Int) == 0) = false := by simp; omega
                      have q2 : (((ea : Nat) : Int) != 0) = true := by simp; omega
                      have q3 : (((ea : Nat) : Int) != ((ee : Nat) : Int)) = false := by simp; omega
                      clear h1 h2 h3 h4 hS hdq hbv
                      go_wp2_with fail
                      go_meet
                      case rel => exact ⟨rfl, HTb.out⟩
                    · have q1 : (((ea : Nat) : Int) == 0) = true := by simp; omega
                      have q2 : (((ee : Nat) : Int) != 0) = false := by simp; omega
                      have q3 : (((ea : Nat) : Int) != 0) = false := by simp; omega
                      clear h1 h3 hS hdq hbv
                      go_wp2_with (go_at_call 18; refine (sam_c aa ww xs xs _ hrb hrw (by omega) (by omega)).mono ?_; rintro e wk ⟨rfl, hbk⟩; have HTk := hid (HTb.out.below hbk); have hdx : decide (xs = xs) = true := decide_eq_true rfl)
                      go_meet
                      case rel => exact ⟨rfl, HTk.out⟩
                  case rest =>
                    obtain ⟨rfl, hT⟩ := hcut
                    have HT := hid hT
                    clear hT HWA HTa HTb
                    go_upto_region 21 with (first
                      | (refine wpList_value rfl (by intro c hc; cases hc) (.agg (handR (rawOf (twiceH H)) (.slice p6 n6 m6) (.slice q6 l6 k6))) (exec_ldR rfl rfl HT.out.x6) ?_)
                      | (go_at_call 15; refine (own_c (rawOf (twiceH H)) _ _ _ HT.out.k6.reads HT.out.l6.readsA (by have := HLT.out.1; omega) (by have := HLT.out.2; omega)).mono ?_; rintro e wa ⟨fx, cx, rfl, hfx, hcx, hbx⟩; have HTa := hid (HT.out.below hbx))
                      | (go_at_call 14; refine (wtsR_c (rawOf (twiceH H)) fx cx wa hfx.reads hcx.readsA (by have := HLT.out.1; omega) (by have := HLT.out.2; omega)).mono ?_; rintro e wb ⟨bb, eb, rfl, hwa, hbz⟩; have HTb := hid (HTa.out.below hbz); have HWA := hid hwa; clear hfx hcx hbx hwa hbz))
                    go_cut [162] from 151 to 162 (fun c wx => c = .bool false ∧ TurnI g w (rawOf H) (.slice pf n cf) (.slice pc m cc) gp ee ww b5 b6 b7 (handR (rawOf (backH H)) (.slice p5 n5 m5) (.slice q5 l5 k5)) (handR (rawOf H) (.slice p6 n6 m6) (.slice q6 l6 k6)) (handR (rawOf H) (.slice p7 n7 m7) (.slice q7 l7 k7)) (.slice p5 n5 m5) (.slice p6 n6 m6) (.slice p7 n7 m7) (.slice q5 l5 k5) (.slice q6 l6 k6) (.slice q7 l7 k7) (rawOf (backH H)).faces (rawOf (twiceH H)).faces (rawOf (moreH H)).faces (rawOf (backH H)).cards (rawOf H).cards (rawOf H).cards wx)
                    case first =>
                      have hS := turned_twice H HVL.out
                      rcases wt_same HVL.out hS HTb.out.wt HWA.out with ⟨h1, h2, h3⟩ | ⟨h1, h2, h3⟩ | ⟨h1, h3, xs, hxl, hrw, hrb⟩
                      · have q1 : (((eb : Nat) : Int) == 0) = false := by simp; omega
                        clear h1 h2 h3 hS
                        go_wp2_with fail
                        go_meet
                        case rel => exact ⟨rfl, HTb.out⟩
                      · have q1 : (((eb : Nat) : Int) == 0) = false := by simp; omega
                        clear h1 h2 h3 hS
                        go_wp2_with fail
                        go_meet
                        case rel => exact ⟨rfl, HTb.out⟩
                      · have q1 : (((eb : Nat) : Int) == 0) = true := by simp; omega
                        have q2 : (((ee : Nat) : Int) != 0) = false := by simp; omega
                        clear h1 h3 hS
                        go_wp2_with (go_at_call 18; refine (sam_c bb ww xs xs _ hrb hrw (by omega) (by omega)).mono ?_; rintro e wk ⟨rfl, hbk⟩; have HTk := hid (HTb.out.below hbk); have hdx : decide (xs = xs) = true := decide_eq_true rfl)
                        go_meet
                        case rel => exact ⟨rfl, HTk.out⟩
                    case rest =>
                      obtain ⟨rfl, hT⟩ := hcut
                      have HT := hid hT
                      clear hT HWA HTa HTb
                      go_upto_region 24 with (first
                        | (refine wpList_value rfl (by intro c hc; cases hc) (.agg (handR (rawOf (moreH H)) (.slice p7 n7 m7) (.slice q7 l7 k7))) (exec_ldR rfl rfl HT.out.x7) ?_)
                        | (go_at_call 15; refine (own_c (rawOf (moreH H)) _ _ _ HT.out.k7.reads HT.out.l7.readsA (by have := HLM.out.1; omega) (by have := HLM.out.2; omega)).mono ?_; rintro e wa ⟨fx, cx, rfl, hfx, hcx, hbx⟩; have HTa := hid (HT.out.below hbx))
                        | (go_at_call 14; refine (wtsR_c (rawOf (moreH H)) fx cx wa hfx.reads hcx.readsA (by have := HLM.out.1; omega) (by have := HLM.out.2; omega)).mono ?_; rintro e wb ⟨dd, ed, rfl, hwa, hbz⟩; have HTb := hid (HTa.out.below hbz); have HWA := hid hwa; clear hfx hcx hbx hwa hbz))
                      have ⟨k0, k1, k2, k3, k4, k5', k6', k7'⟩ := cells8 HTb.out.hx
                      by_cases hgo : (rawOf H).kind = 1 ∧ ed = 0
                      · have q1 : ((rawOf H).kind == 1) = true := by simp [hgo.1]
                        have q2 : (((ed : Nat) : Int) == 0) = true := by simp [hgo.2]
                        have hk1 : H.kind = 1 := by have : ((H.kind : Nat) : Int) = 1 := hgo.1; omega
                        obtain ⟨r1, r2, r3, r4⟩ := turned_more H HVL.out hk1
                        obtain ⟨od2, hdd, hrow⟩ : ∃ od2, dd = .slice (some ⟨od2, 0, none⟩) (outsN H + H.count) (outsN H + H.count) ∧ wb.heap[od2]? = some (.cells (irow (outsN H + H.count) (cst (wqH (moreH H)))) 3 (0, 0)) ∧ dnH H ≤ 1000000000000000 := by
                          rcases HWA.out with ⟨h, _⟩ | ⟨h, _⟩ | ⟨_, _, _, h4, oa, h5, _, h6⟩
                          · have := hgo.2; omega
                          · have := hgo.2; omega
                          · rw [toH_raw] at h4 h5 h6
                            rw [r2] at h5 h6
                            exact ⟨oa, h5, h6, r1 ▸ h4⟩
                        obtain ⟨hrow, hdn⟩ := hrow
                        obtain ⟨ow, hww, hroww, he0⟩ : ∃ ow, ww = .slice (some ⟨ow, 0, none⟩) (outsN H) (outsN H) ∧ wb.heap[ow]? = some (.cells (irow (outsN H) (cst (wqH H))) 3 (0, 0)) ∧ ee = 0 := by
                          rcases HTb.out.wt with ⟨_, h, _⟩ | ⟨_, _, _, h, _⟩ | ⟨h0, _, _, h4, oa, h5, _, h6⟩
                          · rw [HVL.out.ok] at h; cases h
                          · rw [toH_raw] at h; exact absurd hdn h
                          · rw [toH_raw] at h5 h6
                            exact ⟨oa, h5, h6, h0⟩
                        have hob := (outs_le H HVL.out.hand.ok).2
                        have hcb : H.count ≤ 8 := by
                          rcases HVL.out.hand.ok with ⟨_, _, h, _⟩ | ⟨h, _⟩ | ⟨h, _⟩ | ⟨h, _⟩ | ⟨h, _⟩
                          · exact h
                          all_goals omega
                        subst hdd
                        subst hww
                        have q3 : (((ee : Nat) : Int) != 0) = false := by simp; omega
                        obtain ⟨W1, hW1⟩ : ∃ W1, wqH H = W1 := ⟨_, rfl⟩
                        obtain ⟨W2, hW2⟩ : ∃ W2, wqH (moreH H) = W2 := ⟨_, rfl⟩
                        obtain ⟨N1, hN1⟩ : ∃ N1, outsN H = N1 := ⟨_, rfl⟩
                        rw [hN1] at hrow hroww hob
                        simp only [hW1, hW2] at r3 r4 hrow hroww
                        have hce : (rawOf H).count = ((H.count : Nat) : Int) := rfl
                        obtain ⟨C, hC⟩ : ∃ C, H.count = C := ⟨_, rfl⟩
                        rw [hC] at r3 r4 hrow hcb hce
                        rw [hce] at k1
                        simp only [hN1, hC]
                        have hw1 : IntKind.i64.wrap (((N1 : Nat) : Int) + ((C : Nat) : Int)) = ((N1 + C : Nat) : Int) := (IntWalk.i64_in _ (by omega)).trans (by omega)
                        have q4 : (((N1 + C : Nat) : Int) != ((N1 + C : Nat) : Int)) = false := by simp
                        obtain ⟨NC, hNC⟩ : ∃ NC, N1 + C = NC := ⟨_, rfl⟩
                        rw [hNC] at hw1 q4 hrow
                        simp only [hNC]
                        have HR3 := hid r3
                        have HR4 := hid r4
                        have HCC := hid hce
                        have HROW := hid hrow
                        have HROWW := hid hroww
                        have hnc : NC ≤ 5000 := by omega
                        have hncc : ∀ i, C ≤ i → i < NC → i - C < N1 := fun i h1 h2 => by omega
                        clear r1 r2 r3 r4 hrow hroww hW1 hW2 hN1 hC hob hgo hk1 hdn he0 hce hNC
                        go_wp2_with fail
                        clear k0 k1 k2 k3 k4 k5' k6' k7' q1 q2 q3 q4 hw1
                        go_loopw [14] (fun ix wr => ∃ i : Nat, i ≤ NC ∧ ix = .int .i64 ((i : Nat) : Int) ∧ Below wb.heap.size wb wr) (fun ix _ => NC - (intOf ix).toNat)
                        case atStart => exact ⟨0, by omega, rfl, Below.refl _ _⟩
                        case round =>
                          obtain ⟨i, hi, rfl, hB⟩ := hrel
                          have hTr := HTb.out.below hB
                          have ⟨k0, k1, k2, k3, k4, k5', k6', k7'⟩ := cells8 hTr.hx
                          rw [show (rawOf H).count = ((C : Nat) : Int) from HCC.out] at k1
                          have HTr := hid hTr
                          have HBr := hid hB
                          clear hTr
                          rcases Nat.lt_or_ge i NC with hlt | hge
                          · have hin : decide (((i : Nat) : Int) < ((NC : Nat) : Int)) = true := decide_eq_true (by omega)
                            have hin' : ((i : Nat) : Int) < ((NC : Nat) : Int) := by omega
                            have hi0 : (0 : Int) ≤ ((i : Nat) : Int) := by omega
                            have hiw : IntKind.i64.wrap (((i : Nat) : Int) + 1) = ((i + 1 : Nat) : Int) := (IntWalk.i64_in _ (by omega)).trans (by omega)
                            have cd := cell_irow (heap_below hB HROW.out (heap_lt HROW.out)) i hlt
                            simp only [cst] at cd
                            by_cases hiC : i < C
                            · have d1 : decide (((i : Nat) : Int) < ((C : Nat) : Int)) = true := decide_eq_true (by omega)
                              have d2 : decide (((i : Nat) : Int) ≥ ((C : Nat) : Int)) = false := decide_eq_false (by omega)
                              have d3 : decide (((C : Nat) : Int) ≤ ((i : Nat) : Int)) = false := decide_eq_false (by omega)
                              have d4 : ((i : Nat) : Int) < ((C : Nat) : Int) := by omega
                              have d6 : decide (C ≤ i) = false := decide_eq_false (by omega)
                              have d7 : ¬ C ≤ i := by omega
                              have d8 : ¬ ((C : Nat) : Int) ≤ ((i : Nat) : Int) := by omega
                              rw [HR3.out i hiC] at cd
                              have d5 : ((((0 : Nat) : Nat) : Int) != 0) = false := by simp
                              clear hB
                              go_upto_region 30 with fail
                              go_quiet (fail)
                              go_wp2_with fail
                              go_roundw
                              case rel => exact ⟨i + 1, by omega, rfl, HBr.out.trans ⟨rfl, rfl, rfl, Nat.le_refl _, fun _ _ => rfl⟩⟩
                              case measure => simp only [intOf, Int.toNat_natCast]; omega
                            · have d1 : decide (((i : Nat) : Int) < ((C : Nat) : Int)) = false := decide_eq_false (by omega)
                              have d2 : decide (((i : Nat) : Int) ≥ ((C : Nat) : Int)) = true := decide_eq_true (by omega)
                              have d3 : decide (((C : Nat) : Int) ≤ ((i : Nat) : Int)) = true := decide_eq_true (by omega)
                              have d4 : ¬ ((i : Nat) : Int) < ((C : Nat) : Int) := by omega
                              have d6 : decide (C ≤ i) = true := decide_eq_true (by omega)
                              have d7 : C ≤ i := by omega
                              have d8 : ((C : Nat) : Int) ≤ ((i : Nat) : Int) := by omega
                              obtain ⟨r, hr⟩ : ∃ r, r + C = i := ⟨i - C, by omega⟩
                              have hrn := hncc i (by omega) hlt
                              rw [show i - C = r by omega] at hrn
                              have hr0 : (0 : Int) ≤ ((r : Nat) : Int) := by omega
                              have hrn' : ((r : Nat) : Int) < ((N1 : Nat) : Int) := by omega
                              have cw := cell_irow (heap_below hB HROWW.out (heap_lt HROWW.out)) r hrn
                              simp only [cst] at cw
                              rw [← hr, HR4.out r] at cd
                              rw [hr] at cd
                              have hws : IntKind.i64.wrap (((i : Nat) : Int) - ((C : Nat) : Int)) = ((r : Nat) : Int) := (IntWalk.i64_in _ (by omega)).trans (by omega)
                              obtain ⟨x, hx⟩ : ∃ x, W1 r = x := ⟨_, rfl⟩
                              rw [hx] at cw cd
                              have d5 : (((x : Nat) : Int) != ((x : Nat) : Int)) = false := by simp
                              clear hB hr hx
                              go_upto_region 30 with fail
                              go_quiet (fail)
                              go_wp2_with fail
                              go_roundw
                              case rel => exact ⟨i + 1, by omega, rfl, HBr.out.trans ⟨rfl, rfl, rfl, Nat.le_refl _, fun _ _ => rfl⟩⟩
                              case measure => simp only [intOf, Int.toNat_natCast]; omega
                          · have e : NC = i := by omega
                            subst e
                            have hin : decide (((NC : Nat) : Int) < ((NC : Nat) : Int)) = false := decide_eq_false (by omega)
                            clear hB
                            go_wp2_with (go_at_call 12; refine (known_c _).mono ?_; rintro e wk ⟨rfl, hbk⟩; have HTk := hid (HTr.out.below hbk))
                            go_ret
                            exact ⟨rfl, by rw [hg]; exact HTk.out.bel⟩
                      · have q1 : ((rawOf H).kind == 1 && ((ed : Nat) : Int) == 0) = false := by
                          rw [Bool.and_eq_false_iff]
                          by_cases h : (rawOf H).kind = 1
                          · right; have : ed ≠ 0 := fun h2 => hgo ⟨h, h2⟩; simp; omega
                          · left; simp [h]
                        have q2 : (rawOf H).kind ≠ 1 ∨ ed ≠ 0 := by omega
                        clear hgo
                        rcases q2 with q2 | q2
                        · have q3 : ((rawOf H).kind == 1) = false := by simp [q2]
                          clear q1
                          go_wp2_with (go_at_call 12; refine (known_c _).mono ?_; rintro e wk ⟨rfl, hbk⟩; have HTk := hid (HTb.out.below hbk))
                          go_ret
                          exact ⟨rfl, by rw [hg]; exact HTk.out.bel⟩
                        · have q3 : (((ed : Nat) : Int) == 0) = false := by simp [q2]
                          clear q1
                          by_cases h : (rawOf H).kind = 1
                          · have q4 : ((rawOf H).kind == 1) = true := by simp [h]
                            go_wp2_with (go_at_call 12; refine (known_c _).mono ?_; rintro e wk ⟨rfl, hbk⟩; have HTk := hid (HTb.out.below hbk))
                            go_ret
                            exact ⟨rfl, by rw [hg]; exact HTk.out.bel⟩
                          · have q4 : ((rawOf H).kind == 1) = false := by simp [h]
                            go_wp2_with (go_at_call 12; refine (known_c _).mono ?_; rintro e wk ⟨rfl, hbk⟩; have HTk := hid (HTb.out.below hbk))
                            go_ret
                            exact ⟨rfl, by rw [hg]; exact HTk.out.bel⟩
    · have hok' : okR R = false := by simpa using hok
      have HCK := hid (fun f c W (h1 : ReadsF W f R.faces) (h2 : ReadsA W c R.cards) => check_no R hok' f c W.heap.size W (RawAt.came h1 h2) (by omega) (by omega))
      clear hbig hsm hfe hce hrf hrc hok hok' hlf hlc
      go_enter Try.func5, Try.ntmps5
      go_wp2_with (first
        | (refine wpList_value rfl (by intro c hc; cases hc) (.agg (handR R fv cv)) (exec_ldR rfl rfl HX.out) ?_)
        | (go_at_call 11; refine (HLG.out _).mono ?_; rintro e w1 ⟨rfl, hb1⟩; have HB1 := hid (HB.out.trans (hb1.mono (by simp; omega))); have HX1 := hid (heap_below hb1 HX.out (heap_lt HX.out)); have ⟨k0, k1, k2, k3, k4, k5, k6, k7⟩ := cells8 HX1.out; have hg1 : g < w1.heap.size := heap_lt HX1.out)
        | (go_at_call 15; refine (HOW.out _ HB1.out).mono ?_; rintro e w2 ⟨f1, c1, rfl, hf1, hc1, hb2⟩; have HB2 := hid (HB1.out.trans (hb2.mono (by omega))); have HX2 := hid (heap_below hb2 HX1.out (heap_lt HX1.out)); have hg2 : g < w2.heap.size := heap_lt HX2.out)
        | (go_at_call 26; refine (HCK.out f1 c1 w2 hf1 hc1).mono ?_; rintro e w3 ⟨rfl, hb3⟩; have HB3 := hid (HB2.out.trans (hb3.mono (by omega))); have HX3 := hid (heap_below hb3 HX2.out (heap_lt HX2.out)); have hg3 : g < w3.heap.size := heap_lt HX3.out)
        | (go_at_call 12; refine (known_c _).mono ?_; rintro e wk ⟨rfl, hbk⟩))
      go_ret
      exact ⟨rfl, by rw [hg]; exact HB3.out.trans (hbk.mono (by omega))⟩
end Go.Proofs.Ytmjnelkeiogdcaa
