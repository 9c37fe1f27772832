/- Lists of boxes and of Booleans beside a drawing; its lines. -/
import Derived.Test.YtbcileppebpamaaDoorZA
import Derived.Test.YtbcileppebpamaaDoorYI
import Derived.Maps.AppendAt
set_option linter.unusedSimpArgs false
set_option linter.unusedVariables false
namespace Go.Proofs.YtbcileppebpamaaDoor
open Go Go.RowKit Go.Shelf
set_option maxRecDepth 100000

theorem infoBox : (Tryd.prog.info? 23).map (fun i => (i.zero, i.size, i.bytes)) = some (some (.agg #[.int .i64 0, .int .i64 0, .string ⟨#[]⟩]), 3, 32) := by kernel_rfl
theorem infoBool : (Tryd.prog.info? 4).map (fun i => (i.zero, i.size, i.bytes)) = some (some (.bool false), 1, 1) := by kernel_rfl
structure Bx where
  p : Nat
  v : Nat
  s : ByteArray
def Bx.cells (x : Bx) : List Value := [.int .i64 ((x.p : Nat) : Int), .int .i64 ((x.v : Nat) : Int), .string x.s]
section
variable {W W' : World} {B B2 b q : Nat} {T T' : TypeId} {sz sz' n n' : Nat} {v v' : Value} {cs cs' : List Value} {D : DS}
theorem own_below (h : W.ownsRow B T sz v n cs) (hb : Below W.heap.size W W') : W'.ownsRow B T sz v n cs :=
  ⟨h.1, h.2.imp id fun ⟨g, cap, cur, h3, h4, h5, h6⟩ => ⟨g, cap, cur, h3, h4, heap_below hb h5 (heap_lt h5), h6⟩⟩
theorem own_only (h : W.ownsRow B2 T sz v n cs) (hT : (T == 9) = false) (hO : OnlyD B b q W W') (hb : b < B2) (hq : q < B2) : W'.ownsRow B2 T sz v n cs :=
  ⟨h.1, h.2.imp id fun ⟨g, cap, cur, h3, h4, h5, h6⟩ => ⟨g, cap, cur, h3, h4, hO.block _ _ h5 (by omega) (by omega) (.inr hT), h6⟩⟩
theorem own_ne (h : W.ownsRow B T sz v n cs) {k : Nat} {ks : Array Value} {z : Nat × Nat} (hk : W.heap[k]? = some (.cells ks T' z)) (hT : T' ≠ T) : some k ≠ v.ownBlock := by
  rcases h.2 with ⟨rfl, h0⟩ | ⟨g, cap, cur, rfl, h4, h5, _⟩
  · simp [Value.ownBlock]
  · intro e
    simp [Value.ownBlock] at e
    subst e
    rw [h5] at hk
    cases hk
    exact hT rfl
theorem own_low (h : W.ownsRow B T sz v n cs) {k : Nat} (hk : k < B) : some k ≠ v.ownBlock := by
  rcases h.2 with ⟨rfl, h0⟩ | ⟨g, cap, cur, rfl, h4, h5, _⟩
  · simp [Value.ownBlock]
  · simp [Value.ownBlock]; omega
theorem own_grown (h : W.ownsRow B T sz v n cs) (hv' : W.ownsRow B2 T' sz' v' n' cs') (hT : T ≠ T') (hg : W.grownBy W' v'.ownBlock) : W'.ownsRow B T sz v n cs :=
  ⟨h.1, h.2.imp id fun ⟨g, cap, cur, h3, h4, h5, h6⟩ => ⟨g, cap, cur, h3, h4, (hg.block g (heap_lt h5) (own_ne hv' h5 hT)).trans h5, h6⟩⟩
theorem DrawAt.grown (h : DrawAt W B b q D) (hv : W.ownsRow B2 T' sz' v' n' cs') (h1 : 9 ≠ T') (h2 : 94 ≠ T') (h3 : 96 ≠ T') (hg : W.grownBy W' v'.ownBlock) : DrawAt W' B b q D := by
  obtain ⟨vl, k1, k2⟩ := h.box
  exact ⟨⟨vl, (hg.block b (heap_lt k1) (own_ne hv k1 h2)).trans k1, own_grown k2 hv h1 hg⟩, (hg.block q (heap_lt h.row) (own_ne hv h.row h3)).trans h.row⟩
theorem own_form (h : W.ownsRow B T sz v n cs) : ∃ p c, v = .slice p n c := by
  rcases h.2 with ⟨rfl, h0⟩ | ⟨g, cap, cur, h3, _⟩
  · exact ⟨none, 0, by rw [h0]⟩
  · exact ⟨_, _, h3⟩
theorem own_at {p : Option Addr} {m c : Nat} (h : W.ownsRow B T sz (.slice p m c) n cs) {i : Nat} (hi : i < n) : ∃ g, p = some ⟨g, 0, none⟩ ∧ g < W.heap.size ∧ B ≤ g ∧ ∀ k, k < sz → W.cell? ⟨g, i * sz + k, none⟩ = cs[i * sz + k]? := by
  rcases h.2 with ⟨_, h0⟩ | ⟨g, cap, cur, h3, h4, h5, h6, h7, h8, h9⟩
  · omega
  · injection h3 with e1 _ _
    refine ⟨g, e1, heap_lt h5, h4, fun k hk => ?_⟩
    rw [cell_of_row _ _ _ _ _ _ h5, ← h9, List.getElem?_take]
    have : i * sz + k < n * sz := by
      have : (i + 1) * sz ≤ n * sz := Nat.mul_le_mul_right _ hi
      rw [Nat.add_mul, Nat.one_mul] at this
      omega
    rw [if_pos this, Array.getElem?_toList]
end
theorem flat_get {α : Type} (f : α → List Value) (sz : Nat) (hf : ∀ x, (f x).length = sz) : ∀ (xs : List α) (i : Nat) (x : α) (k : Nat), xs[i]? = some x → k < sz → (xs.flatMap f)[i * sz + k]? = (f x)[k]?
  | y :: xs, 0, x, k, h, hk => by
    simp at h
    subst h
    rw [List.flatMap_cons, Nat.zero_mul, Nat.zero_add, List.getElem?_append_left (by rw [hf]; exact hk)]
  | y :: xs, i + 1, x, k, h, hk => by
    rw [List.flatMap_cons, List.getElem?_append_right (by rw [hf, Nat.add_mul]; omega), hf, Nat.add_mul, show i * sz + 1 * sz + k - sz = i * sz + k by omega]
    exact flat_get f sz hf xs i x k (by simpa using h) hk
/-- A drawing, a list of boxes, a list of Booleans. -/
structure PB (w V : World) (B b q B2 : Nat) (D : DS) (vb vd : Value) (xs : List Bx) (ds : List Bool) : Prop where
  da : DA w V B b q D
  bx : V.ownsRow B2 23 3 vb xs.length (xs.flatMap Bx.cells)
  bl : V.ownsRow B2 4 1 vd ds.length (ds.map Value.bool)
  le : B2 ≤ V.heap.size
  hb : b < B2
  hq : q < B2
section
variable {w V V' : World} {B b q B2 : Nat} {D D' : DS} {vb vd : Value} {xs : List Bx} {ds : List Bool}
theorem PB.below (h : PB w V B b q B2 D vb vd xs ds) (hb : Below V.heap.size V V') : PB w V' B b q B2 D vb vd xs ds :=
  ⟨h.da.below hb, own_below h.bx hb, own_below h.bl hb, Nat.le_trans h.le hb.size, h.hb, h.hq⟩
theorem PB.only (h : PB w V B b q B2 D vb vd xs ds) (hd : DA w V' B b q D') (ho : OnlyD B b q V V') : PB w V' B b q B2 D' vb vd xs ds :=
  ⟨hd, own_only h.bx (by decide) ho h.hb h.hq, own_only h.bl (by decide) ho h.hb h.hq, Nat.le_trans h.le ho.size, h.hb, h.hq⟩
theorem DA.grown (h : DA w V B b q D) (hd : DrawAt V' B b q D) {r : Option Nat} (hg : V.grownBy V' r) (hr : ∀ k, k < w.heap.size → some k ≠ r) : DA w V' B b q D :=
  ⟨hd, h.bw.trans ⟨hg.os, hg.tape, hg.output, hg.size, fun k hk => hg.block k (Nat.lt_of_lt_of_le hk h.bw.size) (hr k hk)⟩, h.wB, Nat.le_trans h.le hg.size, h.hb, h.hq⟩
theorem PB.low (h : PB w V B b q B2 D vb vd xs ds) {k : Nat} (hk : k < w.heap.size) : k < B2 := by
  have := h.da.wB
  have := h.da.hb
  have := h.hb
  omega
theorem PB.appBox (h : PB w V B b q B2 D vb vd xs ds) {vb' : Value} {xs' : List Bx} (hv : V'.ownsRow B2 23 3 vb' xs'.length (xs'.flatMap Bx.cells)) (hg : V.grownBy V' vb.ownBlock) : PB w V' B b q B2 D vb' vd xs' ds :=
  ⟨h.da.grown (h.da.d.grown h.bx (by decide) (by decide) (by decide) hg) hg fun k hk => own_low h.bx (h.low hk), hv, own_grown h.bl h.bx (by decide) hg, Nat.le_trans h.le hg.size, h.hb, h.hq⟩
theorem PB.appBool (h : PB w V B b q B2 D vb vd xs ds) {vd' : Value} {ds' : List Bool} (hv : V'.ownsRow B2 4 1 vd' ds'.length (ds'.map Value.bool)) (hg : V.grownBy V' vd.ownBlock) : PB w V' B b q B2 D vb vd' xs ds' :=
  ⟨h.da.grown (h.da.d.grown h.bl (by decide) (by decide) (by decide) hg) hg fun k hk => own_low h.bl (h.low hk), own_grown h.bx h.bl (by decide) hg, hv, Nat.le_trans h.le hg.size, h.hb, h.hq⟩
end
/-- The appending of a box, of a Boolean. -/
theorem wpList_app_box {ops : Array Oper} {rest : List Oper} {o : Oper} {a : Act} {Q : Exit → Act → World → Prop} (hgd : o.guard = none) (s x : Operand)
    (ho : o.op = .call { callee := .builtin .append, args := #[s, x], argTypes := #[55, 55] }) {w V : World} {B b q B2 : Nat} {D : DS} {vb vd : Value} {xs : List Bx} {ds : List Bool}
    (h : PB w V B b q B2 D vb vd xs ds) (hs : a.eval s = vb) (y : Bx) (g c : Nat) (hx : a.eval x = .slice (some ⟨g, 0, none⟩) 1 c) (hc : V.heap[g]? = some (.cells y.cells.toArray 23 (0, 0))) (hlen : xs.length < 100000)
    (hK : ∀ p' c' w', PB w w' B b q B2 D (.slice p' (xs.length + 1) c') vd (xs ++ [y]) ds → wpList Tryd.prog ops Q rest (a.put o.dst (.slice p' (xs.length + 1) c')) w') : wpList Tryd.prog ops Q (o :: rest) a V := by
  obtain ⟨i0, hi, hz0, hz1, hz2⟩ := info_parts infoBox
  refine wpList_append_own_at V hgd s x 55 ho B2 23 i0 (.agg #[.int .i64 0, .int .i64 0, .string ⟨#[]⟩]) 3 32 Tryd.underlying55 hi hz0 hz1 hz2 rfl (by decide) vb xs.length _ hs h.bx ⟨g, 0, none⟩ 1 c y.cells hx rfl
    (fun j u hj => by
      rw [show (⟨g, 0, none⟩ : Addr).add j = ⟨g, j, none⟩ by unfold Addr.add; split <;> simp_all, cell_of_row _ _ j _ _ (0, 0) hc]
      simpa using hj) (fun u hu => by
      simp only [Bx.cells, List.mem_cons, List.not_mem_nil, or_false] at hu
      rcases hu with rfl | rfl | rfl <;> rfl) (by unfold maxLen; omega) (by omega) h.le fun v' w' r1 r2 _ _ => ?_
  have hx2 : w'.ownsRow B2 23 3 v' (xs ++ [y]).length ((xs ++ [y]).flatMap Bx.cells) := by simpa [List.flatMap_append] using r1
  have hp := h.appBox hx2 r2
  obtain ⟨p', c', rfl⟩ := own_form r1
  exact hK p' c' w' hp
theorem wpList_app_bool {ops : Array Oper} {rest : List Oper} {o : Oper} {a : Act} {Q : Exit → Act → World → Prop} (hgd : o.guard = none) (s x : Operand)
    (ho : o.op = .call { callee := .builtin .append, args := #[s, x], argTypes := #[56, 56] }) {w V : World} {B b q B2 : Nat} {D : DS} {vb vd : Value} {xs : List Bx} {ds : List Bool}
    (h : PB w V B b q B2 D vb vd xs ds) (hs : a.eval s = vd) (y : Bool) (g c : Nat) (hx : a.eval x = .slice (some ⟨g, 0, none⟩) 1 c) (hc : V.heap[g]? = some (.cells #[.bool y] 4 (0, 0))) (hlen : ds.length < 100000)
    (hK : ∀ p' c' w', PB w w' B b q B2 D vb (.slice p' (ds.length + 1) c') xs (ds ++ [y]) → wpList Tryd.prog ops Q rest (a.put o.dst (.slice p' (ds.length + 1) c')) w') : wpList Tryd.prog ops Q (o :: rest) a V := by
  obtain ⟨i0, hi, hz0, hz1, hz2⟩ := info_parts infoBool
  refine wpList_append_own_at V hgd s x 56 ho B2 4 i0 (.bool false) 1 1 Tryd.underlying56 hi hz0 hz1 hz2 rfl (by decide) vd ds.length _ hs h.bl ⟨g, 0, none⟩ 1 c [.bool y] hx rfl
    (fun j u hj => by
      rw [show (⟨g, 0, none⟩ : Addr).add j = ⟨g, j, none⟩ by unfold Addr.add; split <;> simp_all, cell_of_row _ _ j _ _ (0, 0) hc]
      simpa using hj) (fun u hu => by
      simp only [List.mem_cons, List.not_mem_nil, or_false] at hu
      subst hu
      rfl) (by unfold maxLen; omega) (by omega) h.le fun v' w' r1 r2 _ _ => ?_
  have hx2 : w'.ownsRow B2 4 1 v' (ds ++ [y]).length ((ds ++ [y]).map Value.bool) := by simpa using r1
  have hp := h.appBool hx2 r2
  obtain ⟨p', c', rfl⟩ := own_form r1
  exact hK p' c' w' hp
end Go.Proofs.YtbcileppebpamaaDoor
