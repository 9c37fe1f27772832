/- Walks of the laws' helpers: own, ints, large. -/
import Derived.Test.YtmjnelkeiogdcaaJM
set_option linter.unusedSimpArgs false
set_option linter.unusedVariables false
namespace Go.Proofs.Ytmjnelkeiogdcaa
open Go Go.RowKit Go.Shelf
set_option maxRecDepth 100000

theorem infoFace : (Try.prog.info? 50).map (fun i => (i.zero, i.size, i.bytes)) = some (some (.agg #[.int .i64 0, .int .i64 0]), 2, 16) := by kernel_rfl
def fcells (fs : List (Int × Int)) : List Value := fs.flatMap fun f => [.int .i64 f.1, .int .i64 f.2]
theorem fcells_len (fs : List (Int × Int)) : (fcells fs).length = fs.length * 2 := by
  induction fs with
  | nil => rfl
  | cons f fs ih => simp [fcells] at ih ⊢; omega
theorem fcells_get (fs : List (Int × Int)) (i : Nat) (h : i < fs.length) : (fcells fs)[i * 2]? = some (.int .i64 fs[i].1) ∧ (fcells fs)[i * 2 + 1]? = some (.int .i64 fs[i].2) := by
  induction fs generalizing i with
  | nil => simp at h
  | cons f fs ih =>
    cases i with
    | zero => simp [fcells]
    | succ i =>
      have := ih i (by simpa using h)
      rw [show (i + 1) * 2 = i * 2 + 2 by omega]
      simpa [fcells] using this
theorem fcells_one (fs : List (Int × Int)) : ∀ u ∈ fcells fs, u.oneCell' = true := fun u hu => by
  obtain ⟨f, _, hf⟩ := List.mem_flatMap.1 hu
  rcases List.mem_cons.1 hf with rfl | hf
  · rfl
  · rcases List.mem_cons.1 hf with rfl | hf
    · rfl
    · simp at hf
theorem fcells_split (fs : List (Int × Int)) (j : Nat) (u : Value) (h : (fcells fs)[j]? = some u) : ∃ i, ∃ (hi : i < fs.length), (j = i * 2 ∧ u = .int .i64 fs[i].1) ∨ (j = i * 2 + 1 ∧ u = .int .i64 fs[i].2) := by
  have hj : j < fs.length * 2 := by rw [← fcells_len]; exact (List.getElem?_eq_some_iff.1 h).1
  have hi : j / 2 < fs.length := by omega
  obtain ⟨h1, h2⟩ := fcells_get fs (j / 2) hi
  refine ⟨j / 2, hi, ?_⟩
  rcases Nat.mod_two_eq_zero_or_one j with hm | hm
  · rw [show j / 2 * 2 = j by omega, h] at h1
    exact .inl ⟨by omega, Option.some.inj h1⟩
  · rw [show j / 2 * 2 + 1 = j by omega, h] at h2
    exact .inr ⟨by omega, Option.some.inj h2⟩
/-- Faces of the call's own. -/
def FO (w : World) (base : Nat) (v : Value) (fs : List (Int × Int)) : Prop := w.ownsRow base 50 2 v fs.length (fcells fs)
theorem FO.mono {w : World} {B B' : Nat} {v : Value} {fs : List (Int × Int)} (h : FO w B v fs) (hB : B' ≤ B) : FO w B' v fs := ⟨h.1, h.2.imp id fun ⟨g, cap, cur, h3, h4, h5⟩ => ⟨g, cap, cur, h3, by omega, h5⟩⟩
theorem FO.below {w w' : World} {B : Nat} {v : Value} {fs : List (Int × Int)} (h : FO w B v fs) (hb : Below w.heap.size w w') : FO w' B v fs := ⟨h.1, h.2.imp id fun ⟨g, cap, cur, h3, h4, h5, h6⟩ => ⟨g, cap, cur, h3, h4, heap_below hb h5 (heap_lt h5), h6⟩⟩
theorem FO.made (w : World) (B : Nat) (hB : B ≤ w.heap.size) : FO (w.alloc (.cells #[] 50)) B (.slice (some ⟨w.heap.size, 0, none⟩) 0 0) [] := World.ownsRow_made w #[] 0 hB (by decide) rfl
theorem FO.slice {w : World} {B : Nat} {v : Value} {fs : List (Int × Int)} (h : FO w B v fs) : ∃ p n c, v = .slice p n c := by rcases h.2 with ⟨h, _⟩ | ⟨g, cap, cur, h, _⟩ <;> exact ⟨_, _, _, h⟩
theorem Ints.slice {w : World} {B : Nat} {v : Value} {xs : List Int} (h : Ints w B v xs) : ∃ p n c, v = .slice p n c := by rcases h.2 with ⟨h, _⟩ | ⟨g, cap, cur, h, _⟩ <;> exact ⟨_, _, _, h⟩
/-- Faces that came in. -/
def ReadsF (w : World) (v : Value) (fs : List (Int × Int)) : Prop :=
  (fs = [] ∧ v = .slice none 0 0) ∨ (∃ (a : Addr) (c : Nat), v = .slice (some a) fs.length c ∧ (0 < fs.length → a.block < w.heap.size) ∧ ∀ j u, (fcells fs)[j]? = some u → w.cell? (a.add j) = some u)
theorem add_block (a : Addr) (k : Nat) : (a.add k).block = a.block := by unfold Addr.add; split <;> rfl
theorem ReadsF.below {w w' : World} {v : Value} {fs : List (Int × Int)} (h : ReadsF w v fs) (hb : Below w.heap.size w w') : ReadsF w' v fs := by
  rcases h with h | ⟨a, c, h1, h2, h3⟩
  · exact .inl h
  · refine .inr ⟨a, c, h1, fun h => Nat.lt_of_lt_of_le (h2 h) hb.size, fun j u hj => ?_⟩
    have hl : 0 < fs.length := by have := (List.getElem?_eq_some_iff.1 hj).1; rw [fcells_len] at this; omega
    rw [hb.cell (by rw [add_block]; exact h2 hl)]
    exact h3 j u hj
theorem ReadsF.form {w : World} {v : Value} {fs : List (Int × Int)} (h : ReadsF w v fs) : ∃ p c, v = .slice p fs.length c := by
  rcases h with ⟨rfl, rfl⟩ | ⟨a, c, h1, _⟩
  · exact ⟨none, 0, rfl⟩
  · exact ⟨_, _, h1⟩
theorem FO.reads {w : World} {B : Nat} {v : Value} {fs : List (Int × Int)} (h : FO w B v fs) : ReadsF w v fs := by
  rcases h.2 with ⟨h2, h3⟩ | ⟨g, cap, cur, h3, h4, h5, _, _, _, h7⟩
  · exact .inl ⟨List.eq_nil_of_length_eq_zero h3, h2⟩
  · refine .inr ⟨⟨g, 0, none⟩, cap, h3, fun _ => heap_lt h5, fun j u hj => ?_⟩
    have hl := (List.getElem?_eq_some_iff.1 hj).1
    rw [fcells_len] at hl
    rw [show (⟨g, 0, none⟩ : Addr).add j = ⟨g, j, none⟩ by unfold Addr.add; split <;> simp_all, cell_of_row _ _ j _ _ (0, 0) h5]
    rw [← h7, List.getElem?_take, if_pos hl] at hj
    rw [← Array.getElem?_toList]
    exact hj
theorem Ints.readsA {w : World} {B : Nat} {v : Value} {xs : List Int} (h : Ints w B v xs) : ReadsA w v xs := by
  rcases h.2 with ⟨h2, h3⟩ | ⟨g, cap, cur, h3, h4, h5, h6⟩
  · exact .inl ⟨List.eq_nil_of_length_eq_zero h3, h2⟩
  · rcases h.reads with ⟨rfl, _⟩ | ⟨g', o', c', e1, e2, e3⟩
    · exact .inr ⟨⟨g, 0, none⟩, cap, h3, fun h => by simp at h, fun k hk => by simp at hk⟩
    · exact .inr ⟨⟨g', o', none⟩, c', e1, fun _ => e2, fun k hk => by rw [show (⟨g', o', none⟩ : Addr).add k = ⟨g', o' + k, none⟩ by unfold Addr.add; split <;> simp_all]; exact e3 k hk⟩
/-- A hand that came in. -/
theorem RawAt.came {w : World} {R : RH} {fv cv : Value} (h1 : ReadsF w fv R.faces) (h2 : ReadsA w cv R.cards) : RawAt w w.heap.size R fv cv := by
  refine ⟨Nat.le_refl _, ?_, ?_⟩
  · rcases h1 with ⟨e, rfl⟩ | ⟨a, c, rfl, ha, hc⟩
    · exact ⟨none, 0, by rw [e]; rfl, fun i hi => by rw [e] at hi; simp at hi⟩
    · refine ⟨some a, c, rfl, fun i hi => ?_⟩
      obtain ⟨b, off, spot⟩ := a
      obtain ⟨g1, g2⟩ := fcells_get R.faces i hi
      have e1 := hc _ _ g1
      have e2 := hc _ _ g2
      have hspot : spot = none := by have e0 := hc 0 _ (by simpa using (fcells_get R.faces 0 (by omega)).1); simpa [Addr.add] using World.cell?_spot e0
      subst hspot
      have hadd : ∀ k, (⟨b, off, none⟩ : Addr).add k = ⟨b, off + k, none⟩ := fun k => by unfold Addr.add; split <;> simp_all
      rw [hadd] at e1 e2
      exact ⟨b, off, rfl, ha (by omega), e1, by rw [Nat.add_assoc]; exact e2⟩
  · rcases h2 with ⟨e, rfl⟩ | ⟨a, c, rfl, ha, hc⟩
    · exact ⟨none, 0, by rw [e]; rfl, fun i hi => by rw [e] at hi; simp at hi⟩
    · refine ⟨some a, c, rfl, fun i hi => ?_⟩
      obtain ⟨g, o, rfl, h4⟩ := ReadsA.plain (n := R.cards.length) (by omega) hc rfl
      exact ⟨g, o, rfl, ha (by omega), h4 i hi⟩
/-- A course that came in. -/
theorem CrsAt.came {w : World} {v : Value} {xs : List Int} (h : ReadsA w v xs) : CrsAt w w.heap.size v xs := by
  refine ⟨Nat.le_refl _, ?_⟩
  rcases h with ⟨e, rfl⟩ | ⟨a, c, rfl, ha, hc⟩
  · exact ⟨none, 0, by rw [e]; rfl, fun i hi => by rw [e] at hi; simp at hi⟩
  · refine ⟨some a, c, rfl, fun i hi => ?_⟩
    obtain ⟨g, o, rfl, h4⟩ := ReadsA.plain (n := xs.length) (by omega) hc rfl
    exact ⟨g, o, rfl, ha (by omega), h4 i hi⟩
theorem wpO_app_face {o : Oper} {a : Act} {w : World} {K : Act → World → Prop} {Q : Exit → Act → World → Prop} (s x : Operand)
    (ho : o.op = .call { callee := .builtin .append, args := #[s, x], argTypes := #[23, 23] }) (B : Nat) (v : Value) (hs : a.eval s = v) (hown : FO w B v [])
    (u : Value) (fs : List (Int × Int)) (hx : a.eval x = u) (hr : ReadsF w u fs) (hlen : fs.length < 1000000000) (hB : B ≤ w.heap.size)
    (h : ∀ v' w', FO w' B v' fs → w.grownBy w' v.ownBlock → K (a.put o.dst v') w') : o.wp Try.prog a w K Q := by
  obtain ⟨i0, hi, hz0, hz1, hz2⟩ := info_parts infoFace
  rcases hr with ⟨rfl, rfl⟩ | ⟨ad, c, rfl, _, hc⟩
  · have hrun := run_append_owned_none (P := Try.prog) (w := w) B 23 o.type 50 i0 2 Try.underlying23 hi v 0 _ hown
    unfold Oper.wp
    simp [execOp, ho, resolve, invoke, builtin, hs, hx, hrun, Result.andThen]
    exact h v w hown (World.grownBy.refl w _)
  · obtain ⟨v', w', hrun, r1, r2, _⟩ := run_append_own (P := Try.prog) w B 23 o.type 50 i0 (.agg #[.int .i64 0, .int .i64 0]) 2 16 Try.underlying23 hi hz0 hz1 hz2 rfl (by decide) v 0 _ hown ad fs.length c (fcells fs) (fcells_len fs) hc (fcells_one fs) (by unfold maxLen; omega) (by omega) hB
    unfold Oper.wp
    simp [execOp, ho, resolve, invoke, builtin, hs, hx, hrun, Result.andThen]
    refine h v' w' ?_ r2
    unfold FO
    simpa [fcells] using r1
theorem wpO_app_ints {o : Oper} {a : Act} {w : World} {K : Act → World → Prop} {Q : Exit → Act → World → Prop} (s x : Operand)
    (ho : o.op = .call { callee := .builtin .append, args := #[s, x], argTypes := #[24, 24] }) (B : Nat) (v : Value) (xs : List Int) (hs : a.eval s = v) (hown : Ints w B v xs)
    (u : Value) (ys : List Int) (hx : a.eval x = u) (hr : ReadsA w u ys) (hlen : xs.length + ys.length < 1000000000) (hB : B ≤ w.heap.size)
    (h : ∀ v' w', Ints w' B v' (xs ++ ys) → w.grownBy w' v.ownBlock → K (a.put o.dst v') w') : o.wp Try.prog a w K Q := by
  obtain ⟨i0, hi, hz0, hz1, hz2⟩ := info_parts infoInt
  rcases hr with ⟨rfl, rfl⟩ | ⟨ad, c, rfl, _, hc⟩
  · have hrun := run_append_owned_none (P := Try.prog) (w := w) B 24 o.type 3 i0 1 Try.underlying24 hi v xs.length _ hown
    unfold Oper.wp
    simp [execOp, ho, resolve, invoke, builtin, hs, hx, hrun, Result.andThen]
    exact h v w (by simpa using hown) (World.grownBy.refl w _)
  · obtain ⟨v', w', hrun, r1, r2, _⟩ := run_append_own (P := Try.prog) w B 24 o.type 3 i0 (.int .i64 0) 1 8 Try.underlying24 hi hz0 hz1 hz2 rfl (by decide) v xs.length _ hown ad ys.length c (ys.map (Value.int .i64)) (by simp)
      (fun j u hj => by
        rw [List.getElem?_map] at hj
        have hjl : j < ys.length := by
          rcases Nat.lt_or_ge j ys.length with h | h
          · exact h
          · rw [List.getElem?_eq_none h] at hj; cases hj
        rw [List.getElem?_eq_getElem hjl] at hj
        rw [hc j hjl]
        simpa using hj) (fun u hu => by
        obtain ⟨z, _, rfl⟩ := List.mem_map.1 hu
        rfl) (by unfold maxLen; omega) (by omega) hB
    unfold Oper.wp
    simp [execOp, ho, resolve, invoke, builtin, hs, hx, hrun, Result.andThen]
    refine h v' w' ?_ r2
    unfold Ints
    simpa using r1
theorem FO.own {W : World} {b : Nat} {v : Value} {fs : List (Int × Int)} (h : FO W b v fs) : ∀ k, v.ownBlock = some k → b ≤ k ∧ ∃ cs, W.heap[k]? = some (.cells cs 50 (0, 0)) := fun k hk => by
  rcases h.2 with ⟨h3, _⟩ | ⟨g, cap, cur, h3, h4, h5, _⟩
  · rw [h3] at hk; cases hk
  · rw [h3] at hk
    have : g = k := by simpa [Value.ownBlock] using hk
    subst this
    exact ⟨h4, _, h5⟩
theorem FO.own_block {W W' : World} {b : Nat} {v : Value} {fs : List (Int × Int)} (h : FO W b v fs) (hg : W.grownBy W' v.ownBlock) {k : Nat} {o : Obj} (ho : W.heap[k]? = some o) (hk : k < b ∨ ∀ cs, o ≠ .cells cs 50 (0, 0)) : W'.heap[k]? = some o :=
  (hg.block k (heap_lt ho) fun e => by
    obtain ⟨h1, cs, hc⟩ := h.own k e.symm
    rcases hk with hk | hk
    · omega
    · rw [hc] at ho; cases ho; exact hk _ rfl).trans ho
theorem FO.beside {W W' : World} {b b' : Nat} {v u : Value} {fs : List (Int × Int)} {xs : List Int} (h : FO W b v fs) (k : Ints W b' u xs) (hg : W.grownBy W' u.ownBlock) : FO W' b v fs := by
  refine ⟨h.1, h.2.imp id fun ⟨g, cap, cur, h3, h4, h5, h6⟩ => ⟨g, cap, cur, h3, h4, ?_, h6⟩⟩
  exact Go.Proofs.Ytmjnelkeiogdcaa.own_block k hg h5 (.inr fun cs e => by cases e)
theorem Ints.beside {W W' : World} {b b' : Nat} {v u : Value} {fs : List (Int × Int)} {xs : List Int} (h : Ints W b u xs) (k : FO W b' v fs) (hg : W.grownBy W' v.ownBlock) : Ints W' b u xs := by
  refine ⟨h.1, h.2.imp id fun ⟨g, cap, cur, h3, h4, h5, h6⟩ => ⟨g, cap, cur, h3, h4, ?_, h6⟩⟩
  exact k.own_block hg h5 (.inr fun cs e => by cases e)
end Go.Proofs.Ytmjnelkeiogdcaa
/- Walks of the laws' helpers: own, ints, large. -/
namespace Go.Proofs.Ytmjnelkeiogdcaa
open Go Go.RowKit Go.Shelf
set_option maxRecDepth 100000

theorem region_cutW {P : Program} {c : Code} {Q : Exit → Act → World → Prop} {a : Act} {w : World} (R : Act → World → Prop) (h : c.wp P (Exit.then R (fun _ _ _ => False)) a w) (h2 : ∀ a' w', R a' w' → Q .normal a' w') : c.wp P Q a w :=
  Code.wp_mono (fun e a' w' he => by
    cases e with
    | normal => exact h2 _ _ he
    | _ => exact he.elim) h
theorem exec_fldH {ev : Operand → Value} {o : Oper} {x : Operand} {g i k : Nat} {W : World} (ho : o.op = .fieldAddr 26 x i) (hx : ev x = .pointer (some ⟨g, 0, none⟩)) (hk : (i = 2 ∧ k = 2) ∨ (i = 7 ∧ k = 7)) : (execOp ev o).run Try.prog W = .ok (.value (.pointer (some ⟨g, k, none⟩))) W := by
  rcases hk with ⟨rfl, rfl⟩ | ⟨rfl, rfl⟩ <;> simp [execOp, ho, hx] <;> go_simp
theorem exec_ldF {ev : Operand → Value} {o : Oper} {x : Operand} {p : Addr} {W : World} {v : Value} (ho : o.op = .load 23 x) (hx : ev x = .pointer (some p)) (hg : W.cell? p = some v) :
    (execOp ev o).run Try.prog W = .ok (.value v) W := by
  simp [execOp, ho, hx]
  go_simp
theorem exec_ldslc {ev : Operand → Value} {o : Oper} {x : Operand} {p : Addr} {W : World} {v : Value} (ho : o.op = .load 24 x) (hx : ev x = .pointer (some p)) (hg : W.cell? p = some v) :
    (execOp ev o).run Try.prog W = .ok (.value v) W := by
  simp [execOp, ho, hx]
  go_simp
theorem handR_one (R : RH) (v1 v2 : Value) (h1 : ∃ p n c, v1 = .slice p n c) (h2 : ∃ p n c, v2 = .slice p n c) : (handR R v1 v2).all (·.oneCell') = true := by
  obtain ⟨p, n, c, rfl⟩ := h1
  obtain ⟨p', n', c', rfl⟩ := h2
  simp [handR, handV, Value.oneCell']
set_option maxHeartbeats 2000000 in
/-- A copy of a hand. -/
theorem own_c (R : RH) (fv cv : Value) (w : World) (hrf : ReadsF w fv R.faces) (hrc : ReadsA w cv R.cards) (hlf : R.faces.length < 1000000000) (hlc : R.cards.length < 1000000000) :
    Calls Try.prog 15 #[.agg (handR R fv cv)] w fun e w' => ∃ fv' cv', e = .returned (.agg (handR R fv' cv')) ∧ FO w' w.heap.size fv' R.faces ∧ Ints w' w.heap.size cv' R.cards ∧ Below w.heap.size w w' := by
  have hx := alloc2_first w (.cells (handR R fv cv) 26) (.cells #[.int .i64 0, .int .i64 0, .slice none 0 0, .int .i64 0, .int .i64 0, .int .i64 0, .int .i64 0, .slice none 0 0] 26)
  have hz := alloc2_second w (.cells (handR R fv cv) 26) (.cells #[.int .i64 0, .int .i64 0, .slice none 0 0, .int .i64 0, .int .i64 0, .int .i64 0, .int .i64 0, .slice none 0 0] 26)
  have hb := below2 w (.cells (handR R fv cv) 26) (.cells #[.int .i64 0, .int .i64 0, .slice none 0 0, .int .i64 0, .int .i64 0, .int .i64 0, .int .i64 0, .slice none 0 0] 26)
  have hs : ((w.alloc (.cells (handR R fv cv) 26)).alloc (.cells #[.int .i64 0, .int .i64 0, .slice none 0 0, .int .i64 0, .int .i64 0, .int .i64 0, .int .i64 0, .slice none 0 0] 26)).heap.size = w.heap.size + 2 := by simp
  have HX := hid hx
  have HZ := hid hz
  have HB := hid hb
  have HS := hid hs
  have HRF := hid hrf
  have HRC := hid hrc
  clear hx hz hb hs hrf hrc
  go_enter Try.func15, Try.ntmps15
  go_upto_region 1 with fail
  obtain ⟨g, hg⟩ : ∃ g, w.heap.size = g := ⟨_, rfl⟩
  rw [hg] at HX HZ HB HS
  rw [hg]
  obtain ⟨W0, hW0⟩ : ∃ W0, (w.alloc (.cells (handR R fv cv) 26)).alloc (.cells #[.int .i64 0, .int .i64 0, .slice none 0 0, .int .i64 0, .int .i64 0, .int .i64 0, .int .i64 0, .slice none 0 0] 26) = W0 := ⟨_, rfl⟩
  rw [hW0] at HX HZ HB HS
  rw [hW0]
  clear hW0
  refine region_cutW (fun a' V => ∃ (v1 v2 u3 u4 u5 u6 u7 u8 u9 u10 u11 u12 : Value), a' = { tmps := #[.agg (handR R fv cv), .pointer (some ⟨g, 0, none⟩), .pointer (some ⟨g + 1, 0, none⟩), u3, u4, u5, u6, u7, u8, u9, u10, u11, u12, undef], defers := [] } ∧ V.heap[g]? = some (.cells (((handR R fv cv).setIfInBounds 2 v1).setIfInBounds 7 v2) 26 (0, 0)) ∧ V.heap[g + 1]? = some (.cells #[.int .i64 0, .int .i64 0, .slice none 0 0, .int .i64 0, .int .i64 0, .int .i64 0, .int .i64 0, .slice none 0 0] 26 (0, 0)) ∧ FO V (g + 2) v1 R.faces ∧ Ints V (g + 2) v2 R.cards ∧ Below g w V) ?_ ?_
  · refine regD (fun Y => Y.heap[g]? = some (.cells (handR R fv cv) 26 (0, 0))) (fun j => decide (j < 9)) (by kernel_rfl) ?_
    obtain ⟨X0, hX0⟩ : ∃ X0, W0.drew = X0 := ⟨_, rfl⟩
    have hSX0 : X0.heap[g]? = some (.cells (handR R fv cv) 26 (0, 0)) := hX0 ▸ HX.out
    have hBX0 : Below g w X0 := hX0 ▸ HB.out.trans ⟨rfl, rfl, rfl, Nat.le_refl _, fun _ _ => rfl⟩
    have hsX0 : g + 2 ≤ X0.heap.size := by rw [← hX0]; exact Nat.le_of_eq HS.out.symm
    have hTX0 : X0.heap[g + 1]? = some (.cells #[.int .i64 0, .int .i64 0, .slice none 0 0, .int .i64 0, .int .i64 0, .int .i64 0, .int .i64 0, .slice none 0 0] 26 (0, 0)) := by rw [← hX0]; exact HZ.out
    rw [hX0]
    clear hX0 HX HB HS HZ
    refine takeE (i := 1) (.pointer (some ⟨g, 2, none⟩)) (d := some 4) rfl (by kernel_rfl) (by kernel_rfl) (by kernel_rfl) (by kernel_rfl) (fun _ _ _ h => h) rfl (fun Y hY => by exact exec_fldH rfl rfl (.inl ⟨rfl, rfl⟩)) hSX0 rfl ?_
    simp only [Act.put, List.setIfInBounds_toArray, List.set_cons_zero, List.set_cons_succ]
    refine takeE (i := 2) (fv) (d := some 5) rfl (by kernel_rfl) (by kernel_rfl) (by kernel_rfl) (by kernel_rfl) (fun _ _ _ h => h) rfl (fun Y hY => by exact exec_ldF rfl rfl (cell_of_row Y g 2 _ _ _ hY)) hSX0 rfl ?_
    simp only [Act.put, List.setIfInBounds_toArray, List.set_cons_zero, List.set_cons_succ]
    refine takeE (i := 5) (.pointer (some ⟨g, 7, none⟩)) (d := some 8) rfl (by kernel_rfl) (by kernel_rfl) (by kernel_rfl) (by kernel_rfl) (fun _ _ _ h => h) rfl (fun Y hY => by exact exec_fldH rfl rfl (.inr ⟨rfl, rfl⟩)) hSX0 rfl ?_
    simp only [Act.put, List.setIfInBounds_toArray, List.set_cons_zero, List.set_cons_succ]
    refine takeE (i := 6) (cv) (d := some 9) rfl (by kernel_rfl) (by kernel_rfl) (by kernel_rfl) (by kernel_rfl) (fun _ _ _ h => h) rfl (fun Y hY => by exact exec_ldslc rfl rfl (cell_of_row Y g 7 _ _ _ hY)) hSX0 rfl ?_
    simp only [Act.put, List.setIfInBounds_toArray, List.set_cons_zero, List.set_cons_succ]
    refine stepD2 0 4 (by kernel_rfl) rfl rfl rfl rfl (fun K hK => ?_) (fun K hK => ?_)
    · skip
      go_simp
      have hbN : Below X0.heap.size X0 (X0.alloc (.cells #[] 50)) := (Below.refl _ _).alloc (Nat.le_refl _) _
      have hSX1 : (X0.alloc (.cells #[] 50)).heap[g]? = some (.cells (handR R fv cv) 26 (0, 0)) := heap_below hbN hSX0 (heap_lt hSX0)
      have hTX1 := heap_below hbN hTX0 (heap_lt hTX0)
      have hBX1 := hBX0.trans (hbN.mono (by omega))
      have hsX1 : g + 2 ≤ (X0.alloc (.cells #[] 50)).heap.size := Nat.le_trans hsX0 hbN.size
      have hfX1 := FO.made X0 (g + 2) hsX0
      refine hK _ _ (fun _ => hSX1) ?_
      clear hK K hbN
      obtain ⟨zX1, hzX1⟩ : ∃ zX1, X0.heap.size = zX1 := ⟨_, rfl⟩
      rw [hzX1] at hfX1
      simp only [hzX1]
      generalize X0.alloc (.cells #[] 50) = X1 at *
      refine stepD2 3 4 (by kernel_rfl) rfl rfl rfl rfl (fun K hK => ?_) (fun K hK => ?_)
      · skip
        refine wpO_app_face (.tmp 3) (.tmp 5) rfl (g + 2) _ rfl hfX1 fv R.faces rfl (HRF.out.below (by rw [hg]; exact hBX1)) hlf hsX1 (fun v1 X2 hfX2 hG => ?_)
        have hSX2 : X2.heap[g]? = some (.cells (handR R fv cv) 26 (0, 0)) := hfX1.own_block hG hSX1 (.inl (by omega))
        have hTX2 := hfX1.own_block hG hTX1 (.inl (by omega))
        have hBX2 := hBX1.grown hG (by omega) (fun k hk => by have := (hfX1.own k hk).1; omega)
        have hsX2 : g + 2 ≤ X2.heap.size := Nat.le_trans hsX1 hG.size
        simp only [Act.put, List.setIfInBounds_toArray, List.set_cons_zero, List.set_cons_succ]
        refine hK _ _ (fun _ => hSX2) ?_
        clear hK K hG
        refine takeE (i := 8) (.pointer (some ⟨g, 2, none⟩)) (d := some 11) rfl (by kernel_rfl) (by kernel_rfl) (by kernel_rfl) (by kernel_rfl) (fun _ _ _ h => h) rfl (fun Y hY => by exact exec_fldH rfl rfl (.inl ⟨rfl, rfl⟩)) hSX2 rfl ?_
        simp only [Act.put, List.setIfInBounds_toArray, List.set_cons_zero, List.set_cons_succ]
        refine stepD 4 (by kernel_rfl) rfl rfl (fun K hK => ?_)
        go_simp
        have hbN : Below X2.heap.size X2 (X2.alloc (.cells #[] 3)) := (Below.refl _ _).alloc (Nat.le_refl _) _
        have hSX3 : (X2.alloc (.cells #[] 3)).heap[g]? = some (.cells (handR R fv cv) 26 (0, 0)) := heap_below hbN hSX2 (heap_lt hSX2)
        have hTX3 := heap_below hbN hTX2 (heap_lt hTX2)
        have hBX3 := hBX2.trans (hbN.mono (by omega))
        have hsX3 : g + 2 ≤ (X2.alloc (.cells #[] 3)).heap.size := Nat.le_trans hsX2 hbN.size
        have hcX3 := Ints.made X2 (g + 2) hsX2
        have hfX3 := hfX2.below hbN
        refine hK _ _ (fun _ => hSX3) ?_
        clear hK K hbN
        obtain ⟨zX3, hzX3⟩ : ∃ zX3, X2.heap.size = zX3 := ⟨_, rfl⟩
        rw [hzX3] at hcX3
        simp only [hzX3]
        generalize X2.alloc (.cells #[] 3) = X3 at *
        refine stepD 7 (by kernel_rfl) rfl rfl (fun K hK => ?_)
        refine wpO_app_ints (.tmp 7) (.tmp 9) rfl (g + 2) _ [] rfl hcX3 cv R.cards rfl (HRC.out.below (by rw [hg]; exact hBX3)) (by simpa using hlc) hsX3 (fun v2 X4 hcX4 hG => ?_)
        rw [List.nil_append] at hcX4
        have hSX4 : X4.heap[g]? = some (.cells (handR R fv cv) 26 (0, 0)) := own_block hcX3 hG hSX3 (.inl (by omega))
        have hTX4 := own_block hcX3 hG hTX3 (.inl (by omega))
        have hBX4 := hBX3.grown hG (by omega) (fun k hk => by have := (hcX3.own k hk).1; omega)
        have hsX4 : g + 2 ≤ X4.heap.size := Nat.le_trans hsX3 hG.size
        have hfX4 := hfX3.beside hcX3 hG
        simp only [Act.put, List.setIfInBounds_toArray, List.set_cons_zero, List.set_cons_succ]
        refine hK _ _ (fun _ => hSX4) ?_
        clear hK K hG
        obtain ⟨p1, n1, c1, rfl⟩ := hfX4.slice
        obtain ⟨p2, n2, c2, rfl⟩ := hcX4.slice
        have ca : X4.cell? ⟨g, 2, none⟩ = some fv := cell_of_row X4 g 2 _ _ _ hSX4
        have fa : X4.frozen? ⟨g, 2, none⟩ = false := frozen_of_row _ _ 2 _ _ hSX4
        have hSa : (X4.setCell ⟨g, 2, none⟩ (.slice p1 n1 c1)).heap[g]? = some (.cells ((handR R fv cv).setIfInBounds 2 (.slice p1 n1 c1)) 26 (0, 0)) := heap_setCell_same _ _ _ _ _ _ hSX4
        refine stepD 9 (by kernel_rfl) rfl rfl (fun K hK => ?_)
        go_simp
        refine hK _ _ (fun h => by cases h) ?_
        clear hK K
        refine stepD 10 (by kernel_rfl) rfl rfl (fun K hK => ?_)
        go_simp
        refine hK _ _ (fun h => by cases h) ?_
        clear hK K
        have cb : (X4.setCell ⟨g, 2, none⟩ (.slice p1 n1 c1)).cell? ⟨g, 7, none⟩ = some cv := cell_of_row _ g 7 _ _ _ hSa
        have fb : (X4.setCell ⟨g, 2, none⟩ (.slice p1 n1 c1)).frozen? ⟨g, 7, none⟩ = false := frozen_of_row _ _ 7 _ _ hSa
        have hSb : ((X4.setCell ⟨g, 2, none⟩ (.slice p1 n1 c1)).setCell ⟨g, 7, none⟩ (.slice p2 n2 c2)).heap[g]? = some (.cells (((handR R fv cv).setIfInBounds 2 (.slice p1 n1 c1)).setIfInBounds 7 (.slice p2 n2 c2)) 26 (0, 0)) := heap_setCell_same _ _ _ _ _ _ hSa
        refine stepD 11 (by kernel_rfl) rfl rfl (fun K hK => ?_)
        go_simp
        refine hK _ _ (fun h => by cases h) ?_
        clear hK K
        refine doneD (by kernel_rfl) ?_ _
        refine OnlyNorm.normal ?_
        have key : ∀ (k : Nat) (o : Obj), X4.heap[k]? = some o → k ≠ g → ((X4.setCell ⟨g, 2, none⟩ (.slice p1 n1 c1)).setCell ⟨g, 7, none⟩ (.slice p2 n2 c2)).heap[k]? = some o := fun k o h hk => (heap_setCell_other _ ⟨g, 7, none⟩ k _ hk).trans ((heap_setCell_other X4 ⟨g, 2, none⟩ k _ hk).trans h)
        exact ⟨.slice p1 n1 c1, .slice p2 n2 c2, _, _, _, _, _, _, _, _, _, _, rfl, hSb, key _ _ hTX4 (by omega),
          ⟨hfX4.1, hfX4.2.imp id fun ⟨q, cap, cur, h3, h4, h5, h6⟩ => ⟨q, cap, cur, h3, h4, key _ _ h5 (by omega), h6⟩⟩,
          ⟨hcX4.1, hcX4.2.imp id fun ⟨q, cap, cur, h3, h4, h5, h6⟩ => ⟨q, cap, cur, h3, h4, key _ _ h5 (by omega), h6⟩⟩, (((hBX4).setCell (p := ⟨g, 2, none⟩) (show g ≤ g by omega) _).setCell (p := ⟨g, 7, none⟩) (show g ≤ g by omega) _)⟩
      · skip
        go_simp
        have hbN : Below X1.heap.size X1 (X1.alloc (.cells #[] 3)) := (Below.refl _ _).alloc (Nat.le_refl _) _
        have hSX2 : (X1.alloc (.cells #[] 3)).heap[g]? = some (.cells (handR R fv cv) 26 (0, 0)) := heap_below hbN hSX1 (heap_lt hSX1)
        have hTX2 := heap_below hbN hTX1 (heap_lt hTX1)
        have hBX2 := hBX1.trans (hbN.mono (by omega))
        have hsX2 : g + 2 ≤ (X1.alloc (.cells #[] 3)).heap.size := Nat.le_trans hsX1 hbN.size
        have hcX2 := Ints.made X1 (g + 2) hsX1
        have hfX2 := hfX1.below hbN
        refine hK _ _ (fun _ => hSX2) ?_
        clear hK K hbN
        obtain ⟨zX2, hzX2⟩ : ∃ zX2, X1.heap.size = zX2 := ⟨_, rfl⟩
        rw [hzX2] at hcX2
        simp only [hzX2]
        generalize X1.alloc (.cells #[] 3) = X2 at *
        refine stepD 3 (by kernel_rfl) rfl rfl (fun K hK => ?_)
        refine wpO_app_face (.tmp 3) (.tmp 5) rfl (g + 2) _ rfl hfX2 fv R.faces rfl (HRF.out.below (by rw [hg]; exact hBX2)) hlf hsX2 (fun v1 X3 hfX3 hG => ?_)
        have hSX3 : X3.heap[g]? = some (.cells (handR R fv cv) 26 (0, 0)) := hfX2.own_block hG hSX2 (.inl (by omega))
        have hTX3 := hfX2.own_block hG hTX2 (.inl (by omega))
        have hBX3 := hBX2.grown hG (by omega) (fun k hk => by have := (hfX2.own k hk).1; omega)
        have hsX3 : g + 2 ≤ X3.heap.size := Nat.le_trans hsX2 hG.size
        have hcX3 := hcX2.beside hfX2 hG
        simp only [Act.put, List.setIfInBounds_toArray, List.set_cons_zero, List.set_cons_succ]
        refine hK _ _ (fun _ => hSX3) ?_
        clear hK K hG
        refine takeE (i := 8) (.pointer (some ⟨g, 2, none⟩)) (d := some 11) rfl (by kernel_rfl) (by kernel_rfl) (by kernel_rfl) (by kernel_rfl) (fun _ _ _ h => h) rfl (fun Y hY => by exact exec_fldH rfl rfl (.inl ⟨rfl, rfl⟩)) hSX3 rfl ?_
        simp only [Act.put, List.setIfInBounds_toArray, List.set_cons_zero, List.set_cons_succ]
        refine stepD 7 (by kernel_rfl) rfl rfl (fun K hK => ?_)
        refine wpO_app_ints (.tmp 7) (.tmp 9) rfl (g + 2) _ [] rfl hcX3 cv R.cards rfl (HRC.out.below (by rw [hg]; exact hBX3)) (by simpa using hlc) hsX3 (fun v2 X4 hcX4 hG => ?_)
        rw [List.nil_append] at hcX4
        have hSX4 : X4.heap[g]? = some (.cells (handR R fv cv) 26 (0, 0)) := own_block hcX3 hG hSX3 (.inl (by omega))
        have hTX4 := own_block hcX3 hG hTX3 (.inl (by omega))
        have hBX4 := hBX3.grown hG (by omega) (fun k hk => by have := (hcX3.own k hk).1; omega)
        have hsX4 : g + 2 ≤ X4.heap.size := Nat.le_trans hsX3 hG.size
        have hfX4 := hfX3.beside hcX3 hG
        simp only [Act.put, List.setIfInBounds_toArray, List.set_cons_zero, List.set_cons_succ]
        refine hK _ _ (fun _ => hSX4) ?_
        clear hK K hG
        obtain ⟨p1, n1, c1, rfl⟩ := hfX4.slice
        obtain ⟨p2, n2, c2, rfl⟩ := hcX4.slice
        have ca : X4.cell? ⟨g, 2, none⟩ = some fv := cell_of_row X4 g 2 _ _ _ hSX4
        have fa : X4.frozen? ⟨g, 2, none⟩ = false := frozen_of_row _ _ 2 _ _ hSX4
        have hSa : (X4.setCell ⟨g, 2, none⟩ (.slice p1 n1 c1)).heap[g]? = some (.cells ((handR R fv cv).setIfInBounds 2 (.slice p1 n1 c1)) 26 (0, 0)) := heap_setCell_same _ _ _ _ _ _ hSX4
        refine stepD 9 (by kernel_rfl) rfl rfl (fun K hK => ?_)
        go_simp
        refine hK _ _ (fun h => by cases h) ?_
        clear hK K
        refine stepD 10 (by kernel_rfl) rfl rfl (fun K hK => ?_)
        go_simp
        refine hK _ _ (fun h => by cases h) ?_
        clear hK K
        have cb : (X4.setCell ⟨g, 2, none⟩ (.slice p1 n1 c1)).cell? ⟨g, 7, none⟩ = some cv := cell_of_row _ g 7 _ _ _ hSa
        have fb : (X4.setCell ⟨g, 2, none⟩ (.slice p1 n1 c1)).frozen? ⟨g, 7, none⟩ = false := frozen_of_row _ _ 7 _ _ hSa
        have hSb : ((X4.setCell ⟨g, 2, none⟩ (.slice p1 n1 c1)).setCell ⟨g, 7, none⟩ (.slice p2 n2 c2)).heap[g]? = some (.cells (((handR R fv cv).setIfInBounds 2 (.slice p1 n1 c1)).setIfInBounds 7 (.slice p2 n2 c2)) 26 (0, 0)) := heap_setCell_same _ _ _ _ _ _ hSa
        refine stepD 11 (by kernel_rfl) rfl rfl (fun K hK => ?_)
        go_simp
        refine hK _ _ (fun h => by cases h) ?_
        clear hK K
        refine doneD (by kernel_rfl) ?_ _
        refine OnlyNorm.normal ?_
        have key : ∀ (k : Nat) (o : Obj), X4.heap[k]? = some o → k ≠ g → ((X4.setCell ⟨g, 2, none⟩ (.slice p1 n1 c1)).setCell ⟨g, 7, none⟩ (.slice p2 n2 c2)).heap[k]? = some o := fun k o h hk => (heap_setCell_other _ ⟨g, 7, none⟩ k _ hk).trans ((heap_setCell_other X4 ⟨g, 2, none⟩ k _ hk).trans h)
        exact ⟨.slice p1 n1 c1, .slice p2 n2 c2, _, _, _, _, _, _, _, _, _, _, rfl, hSb, key _ _ hTX4 (by omega),
          ⟨hfX4.1, hfX4.2.imp id fun ⟨q, cap, cur, h3, h4, h5, h6⟩ => ⟨q, cap, cur, h3, h4, key _ _ h5 (by omega), h6⟩⟩,
          ⟨hcX4.1, hcX4.2.imp id fun ⟨q, cap, cur, h3, h4, h5, h6⟩ => ⟨q, cap, cur, h3, h4, key _ _ h5 (by omega), h6⟩⟩, (((hBX4).setCell (p := ⟨g, 2, none⟩) (show g ≤ g by omega) _).setCell (p := ⟨g, 7, none⟩) (show g ≤ g by omega) _)⟩
    · skip
      go_simp
      have hbN : Below X0.heap.size X0 (X0.alloc (.cells #[] 3)) := (Below.refl _ _).alloc (Nat.le_refl _) _
      have hSX1 : (X0.alloc (.cells #[] 3)).heap[g]? = some (.cells (handR R fv cv) 26 (0, 0)) := heap_below hbN hSX0 (heap_lt hSX0)
      have hTX1 := heap_below hbN hTX0 (heap_lt hTX0)
      have hBX1 := hBX0.trans (hbN.mono (by omega))
      have hsX1 : g + 2 ≤ (X0.alloc (.cells #[] 3)).heap.size := Nat.le_trans hsX0 hbN.size
      have hcX1 := Ints.made X0 (g + 2) hsX0
      refine hK _ _ (fun _ => hSX1) ?_
      clear hK K hbN
      obtain ⟨zX1, hzX1⟩ : ∃ zX1, X0.heap.size = zX1 := ⟨_, rfl⟩
      rw [hzX1] at hcX1
      simp only [hzX1]
      generalize X0.alloc (.cells #[] 3) = X1 at *
      refine stepD 0 (by kernel_rfl) rfl rfl (fun K hK => ?_)
      go_simp
      have hbN : Below X1.heap.size X1 (X1.alloc (.cells #[] 50)) := (Below.refl _ _).alloc (Nat.le_refl _) _
      have hSX2 : (X1.alloc (.cells #[] 50)).heap[g]? = some (.cells (handR R fv cv) 26 (0, 0)) := heap_below hbN hSX1 (heap_lt hSX1)
      have hTX2 := heap_below hbN hTX1 (heap_lt hTX1)
      have hBX2 := hBX1.trans (hbN.mono (by omega))
      have hsX2 : g + 2 ≤ (X1.alloc (.cells #[] 50)).heap.size := Nat.le_trans hsX1 hbN.size
      have hfX2 := FO.made X1 (g + 2) hsX1
      have hcX2 := hcX1.below hbN
      refine hK _ _ (fun _ => hSX2) ?_
      clear hK K hbN
      obtain ⟨zX2, hzX2⟩ : ∃ zX2, X1.heap.size = zX2 := ⟨_, rfl⟩
      rw [hzX2] at hfX2
      simp only [hzX2]
      generalize X1.alloc (.cells #[] 50) = X2 at *
      refine stepD 3 (by kernel_rfl) rfl rfl (fun K hK => ?_)
      refine wpO_app_face (.tmp 3) (.tmp 5) rfl (g + 2) _ rfl hfX2 fv R.faces rfl (HRF.out.below (by rw [hg]; exact hBX2)) hlf hsX2 (fun v1 X3 hfX3 hG => ?_)
      have hSX3 : X3.heap[g]? = some (.cells (handR R fv cv) 26 (0, 0)) := hfX2.own_block hG hSX2 (.inl (by omega))
      have hTX3 := hfX2.own_block hG hTX2 (.inl (by omega))
      have hBX3 := hBX2.grown hG (by omega) (fun k hk => by have := (hfX2.own k hk).1; omega)
      have hsX3 : g + 2 ≤ X3.heap.size := Nat.le_trans hsX2 hG.size
      have hcX3 := hcX2.beside hfX2 hG
      simp only [Act.put, List.setIfInBounds_toArray, List.set_cons_zero, List.set_cons_succ]
      refine hK _ _ (fun _ => hSX3) ?_
      clear hK K hG
      refine takeE (i := 8) (.pointer (some ⟨g, 2, none⟩)) (d := some 11) rfl (by kernel_rfl) (by kernel_rfl) (by kernel_rfl) (by kernel_rfl) (fun _ _ _ h => h) rfl (fun Y hY => by exact exec_fldH rfl rfl (.inl ⟨rfl, rfl⟩)) hSX3 rfl ?_
      simp only [Act.put, List.setIfInBounds_toArray, List.set_cons_zero, List.set_cons_succ]
      refine stepD 7 (by kernel_rfl) rfl rfl (fun K hK => ?_)
      refine wpO_app_ints (.tmp 7) (.tmp 9) rfl (g + 2) _ [] rfl hcX3 cv R.cards rfl (HRC.out.below (by rw [hg]; exact hBX3)) (by simpa using hlc) hsX3 (fun v2 X4 hcX4 hG => ?_)
      rw [List.nil_append] at hcX4
      have hSX4 : X4.heap[g]? = some (.cells (handR R fv cv) 26 (0, 0)) := own_block hcX3 hG hSX3 (.inl (by omega))
      have hTX4 := own_block hcX3 hG hTX3 (.inl (by omega))
      have hBX4 := hBX3.grown hG (by omega) (fun k hk => by have := (hcX3.own k hk).1; omega)
      have hsX4 : g + 2 ≤ X4.heap.size := Nat.le_trans hsX3 hG.size
      have hfX4 := hfX3.beside hcX3 hG
      simp only [Act.put, List.setIfInBounds_toArray, List.set_cons_zero, List.set_cons_succ]
      refine hK _ _ (fun _ => hSX4) ?_
      clear hK K hG
      obtain ⟨p1, n1, c1, rfl⟩ := hfX4.slice
      obtain ⟨p2, n2, c2, rfl⟩ := hcX4.slice
      have ca : X4.cell? ⟨g, 2, none⟩ = some fv := cell_of_row X4 g 2 _ _ _ hSX4
      have fa : X4.frozen? ⟨g, 2, none⟩ = false := frozen_of_row _ _ 2 _ _ hSX4
      have hSa : (X4.setCell ⟨g, 2, none⟩ (.slice p1 n1 c1)).heap[g]? = some (.cells ((handR R fv cv).setIfInBounds 2 (.slice p1 n1 c1)) 26 (0, 0)) := heap_setCell_same _ _ _ _ _ _ hSX4
      refine stepD 9 (by kernel_rfl) rfl rfl (fun K hK => ?_)
      go_simp
      refine hK _ _ (fun h => by cases h) ?_
      clear hK K
      refine stepD 10 (by kernel_rfl) rfl rfl (fun K hK => ?_)
      go_simp
      refine hK _ _ (fun h => by cases h) ?_
      clear hK K
      have cb : (X4.setCell ⟨g, 2, none⟩ (.slice p1 n1 c1)).cell? ⟨g, 7, none⟩ = some cv := cell_of_row _ g 7 _ _ _ hSa
      have fb : (X4.setCell ⟨g, 2, none⟩ (.slice p1 n1 c1)).frozen? ⟨g, 7, none⟩ = false := frozen_of_row _ _ 7 _ _ hSa
      have hSb : ((X4.setCell ⟨g, 2, none⟩ (.slice p1 n1 c1)).setCell ⟨g, 7, none⟩ (.slice p2 n2 c2)).heap[g]? = some (.cells (((handR R fv cv).setIfInBounds 2 (.slice p1 n1 c1)).setIfInBounds 7 (.slice p2 n2 c2)) 26 (0, 0)) := heap_setCell_same _ _ _ _ _ _ hSa
      refine stepD 11 (by kernel_rfl) rfl rfl (fun K hK => ?_)
      go_simp
      refine hK _ _ (fun h => by cases h) ?_
      clear hK K
      refine doneD (by kernel_rfl) ?_ _
      refine OnlyNorm.normal ?_
      have key : ∀ (k : Nat) (o : Obj), X4.heap[k]? = some o → k ≠ g → ((X4.setCell ⟨g, 2, none⟩ (.slice p1 n1 c1)).setCell ⟨g, 7, none⟩ (.slice p2 n2 c2)).heap[k]? = some o := fun k o h hk => (heap_setCell_other _ ⟨g, 7, none⟩ k _ hk).trans ((heap_setCell_other X4 ⟨g, 2, none⟩ k _ hk).trans h)
      exact ⟨.slice p1 n1 c1, .slice p2 n2 c2, _, _, _, _, _, _, _, _, _, _, rfl, hSb, key _ _ hTX4 (by omega),
        ⟨hfX4.1, hfX4.2.imp id fun ⟨q, cap, cur, h3, h4, h5, h6⟩ => ⟨q, cap, cur, h3, h4, key _ _ h5 (by omega), h6⟩⟩,
        ⟨hcX4.1, hcX4.2.imp id fun ⟨q, cap, cur, h3, h4, h5, h6⟩ => ⟨q, cap, cur, h3, h4, key _ _ h5 (by omega), h6⟩⟩, (((hBX4).setCell (p := ⟨g, 2, none⟩) (show g ≤ g by omega) _).setCell (p := ⟨g, 7, none⟩) (show g ≤ g by omega) _)⟩
  · rintro a' V ⟨v1, v2, u3, u4, u5, u6, u7, u8, u9, u10, u11, u12, rfl, h1, h2, h3, h4, h5⟩
    clear HX HZ HB HS HRF HRC
    have h1' : V.heap[g]? = some (.cells (handR R v1 v2) 26 (0, 0)) := h1
    go_wp2_with (first
      | (refine wpList_value rfl (by intro c hc; cases hc) (.agg (handR R v1 v2)) (exec_ldR rfl rfl h1') ?_)
      | (refine wpList_store_row rfl _ _ _ rfl (g + 1) _ rfl rfl _ _ h2 (by kernel_rfl) rfl (handR_one R v1 v2 h3.slice h4.slice) ?_))
    refine bodyPost_ret (results_row Try.results15 rfl (setRow_at h2) Try.underlying26 rfl (by kernel_rfl)) rfl ⟨v1, v2, rfl, ?_, ?_, by rw [hg]; exact h5.trans (setRow_below (by omega))⟩
    · exact ⟨h3.1, h3.2.imp id fun ⟨q, cap, cur, e3, e4, e5, e6⟩ => ⟨q, cap, cur, e3, by omega, (setRow_ne (by omega)).trans e5, e6⟩⟩
    · exact ⟨h4.1, h4.2.imp id fun ⟨q, cap, cur, e3, e4, e5, e6⟩ => ⟨q, cap, cur, e3, by omega, (setRow_ne (by omega)).trans e5, e6⟩⟩
end Go.Proofs.Ytmjnelkeiogdcaa
/- Walks of the laws' helpers: same, ints, large. -/
namespace Go.Proofs.Ytmjnelkeiogdcaa
open Go Go.RowKit Go.Shelf
set_option maxRecDepth 100000

theorem sam_len (a b : Option Addr) (n m c d : Nat) (_hn : n ≤ 9223372036854775807) (_hm : m ≤ 9223372036854775807) (h : n ≠ m) (w : World) :
    Calls Try.prog 18 #[.slice a n c, .slice b m d] w fun e w' => e = .returned (.bool false) ∧ w = w' := by
  have h' : (((n : Nat) : Int) != ((m : Nat) : Int)) = true := by simp; omega
  clear h
  go_enter Try.func18, Try.ntmps18
  go_wp2_with fail
  go_ret
  exact ⟨rfl, rfl⟩

set_option maxHeartbeats 400000 in
theorem sam_zero (a b : Option Addr) (c d : Nat) (w : World) :
    Calls Try.prog 18 #[.slice a 0 c, .slice b 0 d] w fun e w' => e = .returned (.bool true) ∧ w = w' := by
  go_enter Try.func18, Try.ntmps18
  go_wp2_with fail
  go_loop [5] (fun i => i = .int .i64 0) (fun _ => 0)
  case atStart => rfl
  case round =>
    subst hrel
    go_wp2_with fail
    go_ret
    exact ⟨rfl, rfl⟩

set_option maxHeartbeats 400000 in
theorem sam_eq (g o g' o' c d N : Nat) (xs ys : List Int) (w : World) (hN : N ≤ 9223372036854775807) (hx : xs.length = N) (hy : ys.length = N)
    (h1 : ∀ k, k < N → w.cell? ⟨g, o + k, none⟩ = some (.int .i64 (xs.getD k 0))) (h2 : ∀ k, k < N → w.cell? ⟨g', o' + k, none⟩ = some (.int .i64 (ys.getD k 0))) :
    Calls Try.prog 18 #[.slice (some ⟨g, o, none⟩) N c, .slice (some ⟨g', o', none⟩) N d] w fun e w' => e = .returned (.bool (decide (xs = ys))) ∧ Below w.heap.size w w' := by
  have H1 := hid h1
  have H2 := hid h2
  have HX := hid hx
  have HY := hid hy
  clear h1 h2 hx hy
  have hne : (((N : Nat) : Int) != ((N : Nat) : Int)) = false := by simp
  go_enter Try.func18, Try.ntmps18
  go_wp2_with fail
  go_loopw [5] (fun i wr => ∃ k n : Nat, k ≤ N ∧ i = .int .i64 k ∧ wr = w.drewN n ∧ Aside (∀ j, j < k → xs.getD j 0 = ys.getD j 0)) (fun i _ => N - (intOf i).toNat)
  case atStart => exact ⟨0, 0, by omega, rfl, rfl, fun j h => absurd h (by omega)⟩
  case round =>
    obtain ⟨k, n, hk, rfl, rfl, A⟩ := hrel
    by_cases hlt : k < N
    · have hlt' : (k : Int) < N := by omega
      have hp0 : (0 : Int) ≤ k := by omega
      have c1 := H1.out k hlt
      have c2 := H2.out k hlt
      by_cases he : xs.getD k 0 = ys.getD k 0
      · have A2 := hid (show ∀ j, j < k + 1 → xs.getD j 0 = ys.getD j 0 from fun j h => by
          by_cases e : j = k
          · subst e; exact he
          · exact A.out j (by omega))
        generalize xs.getD k 0 = x at *
        generalize ys.getD k 0 = y at *
        subst he
        have hb : (x != x) = false := by simp
        go_wp2_with fail
        go_quiet (fail)
        go_wp2_with fail
        go_roundw
        case rel => exact ⟨k + 1, n + nq, by omega, by go_num, rfl, A2.out⟩
        case measure => simp [intOf]; omega
      · have hfin : decide (xs = ys) = false := by
          rw [decide_eq_false_iff_not]
          intro e; subst e; exact he rfl
        have Hfin := hid hfin
        generalize xs.getD k 0 = x at *
        generalize ys.getD k 0 = y at *
        have hb : (x != y) = true := by simp [he]
        clear hfin he
        go_wp2_with fail
        go_quiet (fail)
        go_wp2_with fail
        go_ret
        exact ⟨by rw [Hfin.out]; rfl, below_drewN (below_drewN (Below.refl _ _) _) _⟩
    · have hge : ¬ (k : Int) < N := by omega
      obtain rfl : k = N := by omega
      have hfin : decide (xs = ys) = true := by
        rw [decide_eq_true_iff]
        refine List.ext_getElem (by rw [HX.out, HY.out]) fun j h' h'' => ?_
        have := A.out j (by rw [← HX.out]; exact h')
        rwa [getD_lt _ _ h', getD_lt _ _ h''] at this
      have Hfin := hid hfin
      clear hfin
      go_wp2_with fail
      go_ret
      exact ⟨by rw [Hfin.out]; rfl, below_drewN (Below.refl _ _) _⟩

/-- Two slices that read as lists. -/
theorem sam_c (va vb : Value) (xs ys : List Int) (w : World) (ha : Reads w va xs) (hb : Reads w vb ys) (hx : xs.length ≤ 9223372036854775807) (hy : ys.length ≤ 9223372036854775807) :
    Calls Try.prog 18 #[va, vb] w fun e w' => e = .returned (.bool (decide (xs = ys))) ∧ Below w.heap.size w w' := by
  by_cases hl : xs.length = ys.length
  · rcases ha with ⟨rfl, a, c, rfl⟩ | ⟨g, o, c, rfl, _, h1⟩
    · rcases hb with ⟨rfl, b, d, rfl⟩ | ⟨g', o', d, rfl, _, h2⟩
      · exact (sam_zero a b c d w).mono fun e w' ⟨he, hw⟩ => ⟨by rw [he]; rfl, hw ▸ Below.refl _ _⟩
      · obtain rfl : ys = [] := List.eq_nil_of_length_eq_zero hl.symm
        exact (sam_zero a _ c d w).mono fun e w' ⟨he, hw⟩ => ⟨by rw [he]; rfl, hw ▸ Below.refl _ _⟩
    · rcases hb with ⟨rfl, b, d, rfl⟩ | ⟨g', o', d, rfl, _, h2⟩
      · obtain rfl : xs = [] := List.eq_nil_of_length_eq_zero hl
        exact (sam_zero _ b c d w).mono fun e w' ⟨he, hw⟩ => ⟨by rw [he]; rfl, hw ▸ Below.refl _ _⟩
      · rw [← hl]
        exact sam_eq g o g' o' c d _ xs ys w hx rfl hl.symm (fun k hk => by rw [getD_lt _ _ hk]; exact h1 k hk) (fun k hk => by rw [getD_lt _ _ (by omega)]; exact h2 k (by omega))
  · have hfin : decide (xs = ys) = false := by rw [decide_eq_false_iff_not]; rintro rfl; exact hl rfl
    rw [hfin]
    have hv : ∀ {v : Value} {zs : List Int}, Reads w v zs → ∃ a c, v = .slice a zs.length c := fun h => by
      rcases h with ⟨rfl, a, c, h⟩ | ⟨g, o, c, h, _⟩
      · exact ⟨a, c, h⟩
      · exact ⟨_, c, h⟩
    obtain ⟨a, c, rfl⟩ := hv ha
    obtain ⟨b, d, rfl⟩ := hv hb
    exact (sam_len a b _ _ c d hx hy hl w).mono fun e w' ⟨he, hw⟩ => ⟨he, hw ▸ Below.refl _ _⟩
/-- A copy of a list. -/
theorem ints_c (v : Value) (xs : List Int) (w : World) (hr : ReadsA w v xs) (hl : xs.length < 1000000000) :
    Calls Try.prog 25 #[v] w fun e w' => ∃ v', e = .returned v' ∧ Ints w' w.heap.size v' xs ∧ Below w.heap.size w w' := by
  have hb : Below w.heap.size w (w.alloc (.cells #[] 3)) := (Below.refl _ _).alloc (Nat.le_refl _) _
  have hm := Ints.made w w.heap.size (Nat.le_refl _)
  have HR := hid (hr.below hb)
  have HM := hid hm
  have HB := hid hb
  clear hb hm hr
  go_enter Try.func25, Try.ntmps25
  go_wp2_with (refine wp_append_reads rfl (.tmp 3) (.tmp 4) rfl w.heap.size _ [] rfl HM.out v xs rfl HR.out (by simpa using hl) HB.out.size ?_; intro v' w' h1 h2; rw [List.nil_append] at h1)
  go_ret
  exact ⟨v', rfl, h1, HB.out.grown h2 HB.out.size (fun k hk => (HM.out.own k hk).1)⟩
/-- Whether a hand is large. -/
theorem large_c (R : RH) (p q : Option Addr) (n c n' c' : Nat) (w : World) :
    Calls Try.prog 11 #[.agg (handR R (.slice p n c) (.slice q n' c'))] w fun e w' => e = .returned (.bool (decide (30 < n) || decide (30 < n'))) ∧ Below w.heap.size w w' := by
  have hb : Below w.heap.size w (w.alloc (.cells (handR R (.slice p n c) (.slice q n' c')) 26)) := (Below.refl _ _).alloc (Nat.le_refl _) _
  have HB := hid hb
  have hx := heap_alloc_new w (.cells (handR R (.slice p n c) (.slice q n' c')) 26)
  have HX := hid hx
  have c2 := cell_of_row _ w.heap.size 2 _ _ _ hx
  have c7 := cell_of_row _ w.heap.size 7 _ _ _ hx
  have e2 : (handR R (.slice p n c) (.slice q n' c'))[2]? = some (.slice p n c) := rfl
  have e7 : (handR R (.slice p n c) (.slice q n' c'))[7]? = some (.slice q n' c') := rfl
  rw [e2] at c2
  rw [e7] at c7
  clear hb hx e2 e7
  by_cases h1 : 30 < n
  · have h1' : decide ((30 : Int) < ((n : Nat) : Int)) = true := decide_eq_true (by omega)
    have h1'' : (30 : Int) < ((n : Nat) : Int) := by omega
    simp only [h1, decide_true, Bool.true_or]
    go_enter Try.func11, Try.ntmps11
    go_wp2_with fail
    go_ret
    exact ⟨rfl, HB.out⟩
  · have h1' : decide ((30 : Int) < ((n : Nat) : Int)) = false := decide_eq_false (by omega)
    have h1'' : ¬ (30 : Int) < ((n : Nat) : Int) := by omega
    simp only [h1, decide_false, Bool.false_or]
    by_cases h2 : 30 < n'
    · have h2' : (30 : Int) < ((n' : Nat) : Int) := by omega
      simp only [h2, decide_true]
      go_enter Try.func11, Try.ntmps11
      go_wp2_with fail
      go_ret
      exact ⟨rfl, HB.out⟩
    · have h2' : ¬ (30 : Int) < ((n' : Nat) : Int) := by omega
      simp only [h2, decide_false]
      go_enter Try.func11, Try.ntmps11
      go_wp2_with fail
      go_ret
      exact ⟨rfl, HB.out⟩
end Go.Proofs.Ytmjnelkeiogdcaa
