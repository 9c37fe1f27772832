/- Records of casts: what came in, and copies of the call's own. -/
import Derived.Test.YtmjnelkeiogdcaaJU
import Derived.Test.YtmjnelkeiogdcaaPE
import Derived.Test.YtmjnelkeiogdcaaRH
import Derived.StillTailTactics
import Derived.Deep.CutRange
import Derived.Test.YtmjnelkeiogdcaaKF
import Derived.Test.YtmjnelkeiogdcaaFH
import Derived.Great.BuildSlice
set_option linter.unusedSimpArgs false
set_option linter.unusedVariables false
namespace Go.Proofs.Ytmjnelkeiogdcaa
open Go Go.RowKit Go.Shelf
set_option maxRecDepth 100000

theorem wpO_val {P : Program} {o : Oper} {a : Act} {w w' : World} {K : Act → World → Prop} {Q : Exit → Act → World → Prop} (v : Value) (h : (execOp a.eval o).run P w = .ok (.value v) w') (hK : K (a.put o.dst v) w') : o.wp P a w K Q := by
  unfold Oper.wp
  rw [h]
  exact hK
theorem wpO_call {P : Program} {o : Oper} {a : Act} {w : World} {K : Act → World → Prop} {Q : Exit → Act → World → Prop} (f : FuncId) (args : Array Value) (h : (execOp a.eval o).run P w = .ok (.enter f args) w) (hc : Calls P f args w fun e w' => ∃ v, e = .returned v ∧ K (a.put o.dst v) w') : o.wp P a w K Q := by
  unfold Oper.wp
  rw [h, Oper.upon_enter]
  refine hc.mono fun e w' ⟨v, he, hK⟩ => ?_
  subst he
  exact hK
theorem FO.kept {W W' : World} {B : Nat} {v : Value} {fs : List (Int × Int)} (h : FO W B v fs) (hk : ∀ k o, v.ownBlock = some k → W.heap[k]? = some o → W'.heap[k]? = some o) : FO W' B v fs :=
  ⟨h.1, h.2.imp id fun ⟨g, cap, cur, h3, h4, h5, h6⟩ => ⟨g, cap, cur, h3, h4, hk g _ (by rw [h3]; rfl) h5, h6⟩⟩
theorem Ints.kept {W W' : World} {B : Nat} {v : Value} {xs : List Int} (h : Ints W B v xs) (hk : ∀ k o, v.ownBlock = some k → W.heap[k]? = some o → W'.heap[k]? = some o) : Ints W' B v xs :=
  ⟨h.1, h.2.imp id fun ⟨g, cap, cur, h3, h4, h5, h6⟩ => ⟨g, cap, cur, h3, h4, hk g _ (by rw [h3]; rfl) h5, h6⟩⟩
theorem row_reads {W : World} {ob m : Nat} {f : Nat → Nat} (h : W.heap[ob]? = some (.cells (irow m (cst f)) 3 (0, 0))) : Reads W (.slice (some ⟨ob, 0, none⟩) m m) (((List.range m).map f).map fun x => ((x : Nat) : Int)) := wts_reads h _ rfl
theorem exec_mv {P : Program} {ev : Operand → Value} {o : Oper} {x : Operand} {v : Value} {W : World} (ho : o.op = .move x) (hx : ev x = v) : (execOp ev o).run P W = .ok (.value v) W := by
  subst hx
  simp [execOp, ho]
theorem exec_asg {P : Program} {ev : Operand → Value} {o : Oper} {x : Operand} {v : Value} {W : World} (ho : o.op = .assign x) (hx : ev x = v) : (execOp ev o).run P W = .ok (.value v) W := by
  subst hx
  simp [execOp, ho]
theorem exec_ext {P : Program} {ev : Operand → Value} {o : Oper} {x : Operand} {i : Nat} {vs : Array Value} {v : Value} {W : World} (ho : o.op = .extract x i) (hx : ev x = .tuple vs) (hv : vs[i]? = some v) : (execOp ev o).run P W = .ok (.value v) W := by
  simp [execOp, ho, hx, Instr.extract, hv]
theorem exec_call1 {ev : Operand → Value} {o : Oper} {x : Operand} {f : FuncId} {ts : Array TypeId} {v : Value} {W : World} (ho : o.op = .call { callee := .value (.func f), args := #[x], argTypes := ts }) (hf : ev (.func f) = .func (.func f) #[] #[]) (hx : ev x = v) (hc : (callFunc f #[v]).run Try.prog W = .ok (.enter f #[v]) W) :
    (execOp ev o).run Try.prog W = .ok (.enter f #[v]) W := by
  simp [execOp, ho, hx, resolve, hf, Deferred.ofValue, invoke, hc]
theorem exec_call2 {ev : Operand → Value} {o : Oper} {x y : Operand} {f : FuncId} {ts : Array TypeId} {v u : Value} {W : World} (ho : o.op = .call { callee := .value (.func f), args := #[x, y], argTypes := ts }) (hf : ev (.func f) = .func (.func f) #[] #[]) (hx : ev x = v) (hy : ev y = u) (hc : (callFunc f #[v, u]).run Try.prog W = .ok (.enter f #[v, u]) W) :
    (execOp ev o).run Try.prog W = .ok (.enter f #[v, u]) W := by
  simp [execOp, ho, hx, hy, resolve, hf, Deferred.ofValue, invoke, hc]
theorem exec_ixC {ev : Operand → Value} {o : Oper} {x y : Operand} {b o' n c i : Nat} {W : World} (ho : o.op = .indexAddr 55 x y) (hx : ev x = .slice (some ⟨b, o', none⟩) n c) (hy : ev y = .int .i64 ((i : Nat) : Int)) (hi : i < n) :
    (execOp ev o).run Try.prog W = .ok (.value (.pointer (some ⟨b, o' + i * 2, none⟩))) W := by
  have h0 : ¬ ((i : Nat) : Int) < 0 := by omega
  have h1 : ((i : Nat) : Int) < ((n : Nat) : Int) := by omega
  simp [execOp, ho, hx, hy]
  go_simp
theorem exec_fldC0 {ev : Operand → Value} {o : Oper} {x : Operand} {b k : Nat} {W : World} (ho : o.op = .fieldAddr 57 x 0) (hx : ev x = .pointer (some ⟨b, k, none⟩)) : (execOp ev o).run Try.prog W = .ok (.value (.pointer (some ⟨b, k, none⟩))) W := by
  simp [execOp, ho, hx]
  go_simp
theorem exec_fldC1 {ev : Operand → Value} {o : Oper} {x : Operand} {b k : Nat} {W : World} (ho : o.op = .fieldAddr 57 x 1) (hx : ev x = .pointer (some ⟨b, k, none⟩)) : (execOp ev o).run Try.prog W = .ok (.value (.pointer (some ⟨b, k + 1, none⟩))) W := by
  simp [execOp, ho, hx]
  go_simp
theorem exec_bldC {ev : Operand → Value} {o : Oper} {x y : Operand} {p : Option Addr} {n c : Nat} {z : Int} {W : World} (ho : o.op = .build 57 #[(0, x), (1, y)]) (hx : ev x = .slice p n c) (hy : ev y = .int .i64 z) : (execOp ev o).run Try.prog W = .ok (.value (.agg #[.slice p n c, .int .i64 z])) W := by
  simp [execOp, ho, hx, hy]
  go_simp
theorem infoCast : (Try.prog.info? 57).map (fun i => (i.zero, i.size, i.bytes)) = some (some (.agg #[.slice none 0 0, .int .i64 0]), 2, 32) := by kernel_rfl
theorem exec_bslC {ev : Operand → Value} {o : Oper} {x : Operand} {p : Option Addr} {n c : Nat} {z : Int} {W : World} (ho : o.op = .buildSlice 55 1 #[(0, x)]) (hx : ev x = .agg #[.slice p n c, .int .i64 z]) :
    (execOp ev o).run Try.prog W = .ok (.value (.slice (some ⟨W.heap.size, 0, none⟩) 1 1)) (W.alloc (.cells #[.slice p n c, .int .i64 z] 57)) := by
  obtain ⟨ie, h1, h2, h3, h4⟩ := info_parts infoCast
  have h := run_buildSlice (P := Try.prog) W 55 57 1 #[(0, .agg #[.slice p n c, .int .i64 z])] #[.slice p n c, .int .i64 z] ie (.agg #[.slice none 0 0, .int .i64 0]) Try.underlying55 h1 h2 (by rw [h3]; decide) (by rw [h3]; decide) (by rw [h3]; simp [Instr.fill, Value.cells, show Array.range 2 = #[0, 1] by decide])
  simp [execOp, ho, hx, h]
/-- Casts of the call's own. -/
def rcells (L : List (Value × Int)) : List Value := L.flatMap fun x => [x.1, .int .i64 x.2]
theorem rcells_len (L : List (Value × Int)) : (rcells L).length = L.length * 2 := by
  induction L with
  | nil => rfl
  | cons f fs ih => simp [rcells] at ih ⊢; omega
theorem rcells_get (L : List (Value × Int)) (i : Nat) (h : i < L.length) : (rcells L)[i * 2]? = some L[i].1 ∧ (rcells L)[i * 2 + 1]? = some (.int .i64 L[i].2) := by
  induction L generalizing i with
  | nil => simp at h
  | cons f fs ih =>
    cases i with
    | zero => simp [rcells]
    | succ i =>
      have := ih i (by simpa using h)
      rw [show (i + 1) * 2 = i * 2 + 2 by omega]
      simpa [rcells] using this
structure RO (w : World) (B : Nat) (v : Value) (L : List (Value × Int)) (Rs : List (List Int × Int)) : Prop where
  row : w.ownsRow B 57 2 v L.length (rcells L)
  len : L.length = Rs.length
  each : ∀ i (h : i < L.length) (h' : i < Rs.length), Ints w B L[i].1 Rs[i].1 ∧ L[i].2 = Rs[i].2
theorem RO.below {w w' : World} {B : Nat} {v : Value} {L : List (Value × Int)} {Rs : List (List Int × Int)} (h : RO w B v L Rs) (hb : Below w.heap.size w w') : RO w' B v L Rs :=
  ⟨⟨h.row.1, h.row.2.imp id fun ⟨g, cap, cur, h3, h4, h5, h6⟩ => ⟨g, cap, cur, h3, h4, heap_below hb h5 (heap_lt h5), h6⟩⟩, h.len, fun i hi hi' => ⟨(h.each i hi hi').1.below hb, (h.each i hi hi').2⟩⟩
theorem RO.made (w : World) (B : Nat) (hB : B ≤ w.heap.size) : RO (w.alloc (.cells #[] 57)) B (.slice (some ⟨w.heap.size, 0, none⟩) 0 0) [] [] :=
  ⟨World.ownsRow_made w #[] 0 hB (by decide) rfl, rfl, fun i h => by simp at h⟩
theorem RO.own {W : World} {B : Nat} {v : Value} {L : List (Value × Int)} {Rs : List (List Int × Int)} (h : RO W B v L Rs) : ∀ k, v.ownBlock = some k → B ≤ k ∧ ∃ cs, W.heap[k]? = some (.cells cs 57 (0, 0)) := fun k hk => by
  rcases h.row.2 with ⟨h3, _⟩ | ⟨g, cap, cur, h3, h4, h5, _⟩
  · rw [h3] at hk; cases hk
  · rw [h3] at hk
    have : g = k := by simpa [Value.ownBlock] using hk
    subst this
    exact ⟨h4, _, h5⟩
theorem RO.slice {W : World} {B : Nat} {v : Value} {L : List (Value × Int)} {Rs : List (List Int × Int)} (h : RO W B v L Rs) : ∃ p c, v = .slice p Rs.length c := by
  rcases h.row.2 with ⟨h3, h4⟩ | ⟨g, cap, cur, h3, _⟩
  · exact ⟨none, 0, by rw [h3, ← h.len, h4]⟩
  · exact ⟨_, _, by rw [h3, h.len]⟩
theorem RO.recAt {W : World} {B : Nat} {v : Value} {L : List (Value × Int)} {Rs : List (List Int × Int)} (h : RO W B v L Rs) : RecAt W W.heap.size v Rs := by
  refine ⟨Nat.le_refl _, ?_⟩
  rcases h.row.2 with ⟨h3, h4⟩ | ⟨g, cap, cur, h3, h4, h5, _, _, _, h7⟩
  · exact ⟨none, 0, by rw [h3, ← h.len, h4], fun i hi => by rw [← h.len, h4] at hi; omega⟩
  · refine ⟨some ⟨g, 0, none⟩, cap, by rw [h3, h.len], fun i hi => ?_⟩
    have hi' : i < L.length := by rw [h.len]; exact hi
    obtain ⟨hI, he⟩ := h.each i hi' hi
    obtain ⟨p, c, hf⟩ := hI.readsA.form
    obtain ⟨c0, c1⟩ := rcells_get L i hi'
    have hc := CrsAt.came hI.readsA
    rw [hf] at hc
    refine ⟨g, 0, p, c, rfl, heap_lt h5, ?_, ?_, hc⟩
    · rw [cell_of_row _ _ (0 + i * 2) _ _ (0, 0) h5, ← hf, ← c0, ← h7, List.getElem?_take, if_pos (by omega), ← Array.getElem?_toList, Nat.zero_add]
    · rw [cell_of_row _ _ (0 + i * 2 + 1) _ _ (0, 0) h5, ← he, ← c1, ← h7, List.getElem?_take, if_pos (by omega), ← Array.getElem?_toList, Nat.zero_add]
theorem wpO_app_cast {o : Oper} {a : Act} {w : World} {K : Act → World → Prop} {Q : Exit → Act → World → Prop} (s x : Operand)
    (ho : o.op = .call { callee := .builtin .append, args := #[s, x], argTypes := #[55, 55] }) (B : Nat) (v : Value) (L : List (Value × Int)) (Rs : List (List Int × Int)) (hs : a.eval s = v) (hown : RO w B v L Rs)
    (u : Value) (z : Int) (xs : List Int) (hu : Ints w B u xs) (g c : Nat) (hx : a.eval x = .slice (some ⟨g, 0, none⟩) 1 c) (hc0 : w.cell? ⟨g, 0, none⟩ = some u) (hc1 : w.cell? ⟨g, 1, none⟩ = some (.int .i64 z)) (hlen : Rs.length < 1000000000) (hB : B ≤ w.heap.size)
    (h : ∀ v' w', RO w' B v' (L ++ [(u, z)]) (Rs ++ [(xs, z)]) → w.grownBy w' v.ownBlock → K (a.put o.dst v') w') : o.wp Try.prog a w K Q := by
  obtain ⟨i0, hi, hz0, hz1, hz2⟩ := info_parts infoCast
  have hl := hown.len
  obtain ⟨v', w', hrun, r1, r2, r3⟩ := run_append_own (P := Try.prog) w B 55 o.type 57 i0 (.agg #[.slice none 0 0, .int .i64 0]) 2 32 Try.underlying55 hi hz0 hz1 hz2 rfl (by decide) v L.length _ hown.row ⟨g, 0, none⟩ 1 c [u, .int .i64 z] rfl
    (fun j q hj => by
      rcases j with _ | _ | j
      · simp at hj; subst hj; exact hc0
      · simp at hj; subst hj; exact hc1
      · simp at hj) (fun q hq => by
        obtain ⟨p, n, k, rfl⟩ := hu.slice
        simp at hq
        rcases hq with rfl | rfl <;> rfl) (by unfold maxLen; omega) (by omega) hB
  unfold Oper.wp execOp
  simp only [ho, resolve, invoke, builtin, Sem.run_bind, Sem.run_pure, Result.andThen_ok, List.map_toArray, List.map_cons, List.map_nil, hs, hx, hrun]
  have hkeep : ∀ {q : Value} {ys : List Int}, Ints w B q ys → Ints w' B q ys := fun {q ys} hq => hq.kept fun k ob hk hob => (r2.block k (heap_lt hob) fun e => by
    obtain ⟨_, cs, h1⟩ := hown.own k e.symm
    obtain ⟨_, cs', h2⟩ := hq.own k hk
    rw [h1] at h2
    cases h2).trans hob
  refine h v' w' ⟨?_, by simp [hl], fun i h1 h2 => ?_⟩ r2
  · rw [List.length_append]
    simpa [rcells] using r1
  · rw [List.length_append] at h1 h2
    rcases Nat.lt_or_ge i L.length with hlt | hge
    · rw [List.getElem_append_left hlt, List.getElem_append_left (by omega)]
      exact ⟨hkeep (hown.each i hlt (by omega)).1, (hown.each i hlt (by omega)).2⟩
    · rw [List.getElem_append_right hge, List.getElem_append_right (by omega)]
      simp only [List.length_singleton] at h1
      have e1 : i - L.length = 0 := by omega
      have e2 : i - Rs.length = 0 := by omega
      simp only [e1, e2, List.getElem_cons_zero, and_true]
      exact hkeep hu
/-- Casts that came in. -/
def ReadsR (w : World) (v : Value) (Rs : List (List Int × Int)) : Prop :=
  (Rs = [] ∧ v = .slice none 0 0) ∨ ∃ (a : Addr) (c : Nat), v = .slice (some a) Rs.length c ∧ ∀ i (h : i < Rs.length), ∃ b o u, a = ⟨b, o, none⟩ ∧ b < w.heap.size ∧ w.cell? ⟨b, o + i * 2, none⟩ = some u ∧ w.cell? ⟨b, o + i * 2 + 1, none⟩ = some (.int .i64 Rs[i].2) ∧ ReadsA w u Rs[i].1 ∧ Capd u ∧ ∀ c ∈ Rs[i].1, c ≤ 9223372036854775807
theorem ReadsR.below {w w' : World} {v : Value} {Rs : List (List Int × Int)} (h : ReadsR w v Rs) (hb : Below w.heap.size w w') : ReadsR w' v Rs := by
  rcases h with h | ⟨a, c, h1, h2⟩
  · exact .inl h
  · refine .inr ⟨a, c, h1, fun i hi => ?_⟩
    obtain ⟨b, o, u, e, hl, c0, c1, hr, hcp, h63⟩ := h2 i hi
    exact ⟨b, o, u, e, Nat.lt_of_lt_of_le hl hb.size, (hb.cell (p := ⟨b, o + i * 2, none⟩) hl).trans c0, (hb.cell (p := ⟨b, o + i * 2 + 1, none⟩) hl).trans c1, hr.below hb, hcp, h63⟩
theorem ReadsR.form {w : World} {v : Value} {Rs : List (List Int × Int)} (h : ReadsR w v Rs) : ∃ p c, v = .slice p Rs.length c := by
  rcases h with ⟨rfl, rfl⟩ | ⟨a, c, h1, _⟩
  · exact ⟨none, 0, rfl⟩
  · exact ⟨_, _, h1⟩
theorem ReadsR.elem {w : World} {p : Option Addr} {n c : Nat} {Rs : List (List Int × Int)} (h : ReadsR w (.slice p n c) Rs) {i : Nat} (hi : i < Rs.length) : ∃ b o u, p = some ⟨b, o, none⟩ ∧ b < w.heap.size ∧ w.cell? ⟨b, o + i * 2, none⟩ = some u ∧ w.cell? ⟨b, o + i * 2 + 1, none⟩ = some (.int .i64 Rs[i].2) ∧ ReadsA w u Rs[i].1 ∧ Capd u ∧ ∀ c ∈ Rs[i].1, c ≤ 9223372036854775807 := by
  rcases h with ⟨rfl, _⟩ | ⟨a, c', h1, h2⟩
  · simp at hi
  · injection h1 with e1 _ _
    obtain ⟨b, o, u, rfl, h3⟩ := h2 i hi
    exact ⟨b, o, u, e1, h3⟩
theorem wf63 {xs : List Int} (h : ∀ z ∈ xs, (Lit.int .i64 z).wf = true) : ∀ c ∈ xs, c ≤ 9223372036854775807 := fun c hc => by
  have h1 := h c hc
  simp [Lit.wf] at h1
  exact h1.2
section
variable {H : Type} {enc : TypeId × Value → H} {W : World} {fuel : Nat} {cs : List Value} {x : DataW H × List MemPlace}
theorem ints_rdC (h : DataW.trod enc Try.prog W 0 (fun _ => true) true fuel 24 cs = some x) : ∃ v xs, cs = [v] ∧ ReadsA W v xs ∧ Capd v ∧ ∀ c ∈ xs, c ≤ 9223372036854775807 := by
  obtain ⟨v, xs, h1, h2, h3, h4⟩ := ints_rd Try.underlying24 Try.underlying3 (by kernel_rfl) h
  refine ⟨v, xs, h1, h2, fun p n c e => ?_, wf63 h3⟩
  rcases Go.ChangeShapes.open_ints (k := .i64) Try.underlying24 Try.underlying3 (by kernel_rfl) h with ⟨hcs, _⟩ | ⟨a, len, cap, zs, hcs, _, hl, _⟩
  · rw [h1] at hcs
    injection hcs with hcs
    rw [hcs] at e
    injection e with _ e1 e2
    omega
  · rw [h1] at hcs
    injection hcs with hcs
    rw [hcs] at e
    injection e with _ e1 e2
    omega
theorem casts_rd (h : DataW.trod enc Try.prog W 0 (fun _ => true) true fuel 55 cs = some x) : ∃ v Rs, cs = [v] ∧ ReadsR W v Rs := by
  rcases Go.Deep.open_slice_pairs Try.underlying55 Try.underlying57 (by kernel_rfl) rfl rfl (by kernel_rfl) (by kernel_rfl) h with ⟨hcs, hx⟩ | ⟨a, len, cap, m, n, V0, V1, D0, D1, P0, P1, hcs, _, hl, hm, hmm, hx, hel⟩
  · exact ⟨_, [], hcs, .inl ⟨rfl, rfl⟩⟩
  · have hm' : m = cap := by simpa using hmm
    have key : ∀ i, i < len → ∃ (u : Value) (xs : List Int) (z1 : Int), W.cell? (a.add (i * 2)) = some u ∧ W.cell? (a.add (i * 2 + 1)) = some (.int .i64 z1) ∧ ReadsA W u xs ∧ Capd u ∧ ∀ c ∈ xs, c ≤ 9223372036854775807 := fun i hi => by
      obtain ⟨h1, h2, h3, h4⟩ := hel i (by omega)
      obtain ⟨u, xs, e0, hr, hcp, h63⟩ := ints_rdC h3
      obtain ⟨z1, hz1, _, _⟩ := DataW.trod_int (k := .i64) Try.underlying3 h4
      injection e0 with e0
      injection hz1 with e1
      exact ⟨u, xs, z1, by rw [h1, e0], by rw [h2, e1], hr, hcp, h63⟩
    obtain ⟨F, hF⟩ : ∃ F : Nat → List Int × Int, ∀ i, i < len → ∃ u, W.cell? (a.add (i * 2)) = some u ∧ W.cell? (a.add (i * 2 + 1)) = some (.int .i64 (F i).2) ∧ ReadsA W u (F i).1 ∧ Capd u ∧ ∀ c ∈ (F i).1, c ≤ 9223372036854775807 := by
      refine ⟨fun i => if h : i < len then ((key i h).choose_spec.choose, (key i h).choose_spec.choose_spec.choose) else ([], 0), fun i hi => ?_⟩
      simp only [dif_pos hi]
      exact ⟨_, (key i hi).choose_spec.choose_spec.choose_spec⟩
    have hl0 : ((List.range len).map F).length = len := by simp
    refine ⟨_, (List.range len).map F, hcs, .inr ⟨a, cap, by rw [hl0], fun i hi => ?_⟩⟩
    rw [hl0] at hi
    obtain ⟨u, c0, c1, hr, hcp, h63⟩ := hF i hi
    obtain ⟨b, off, spot⟩ := a
    have hspot : spot = none := by obtain ⟨u0, k0, _⟩ := hF 0 (by omega); simpa [Addr.add] using World.cell?_spot k0
    subst hspot
    have hadd : ∀ k, (⟨b, off, none⟩ : Addr).add k = ⟨b, off + k, none⟩ := fun k => by unfold Addr.add; split <;> simp_all
    rw [hadd] at c0 c1
    simp only [List.getElem_map, List.getElem_range]
    refine ⟨b, off, u, rfl, ?_, c0, by rw [Nat.add_assoc]; exact c1, hr, hcp, h63⟩
    rcases Nat.lt_or_ge b W.heap.size with hg | hg
    · exact hg
    · simp [World.cell?, Array.getElem?_eq_none hg] at c0
end
open Go.ChangeShapes Go.WideShapes in
theorem open_casts {H : Type} {enc : TypeId × Value → H} {W : World} {b0 : Nat} {v : Value} {d : DataW H} {ps : List MemPlace} (hv : Value.okWide Try.prog W .any b0 55 v) (h : DataW.Trod enc Try.prog W 0 (fun _ => true) true 55 v d ps) : ∃ Rs, ReadsR W v Rs := by
  obtain ⟨a0, len, cap, rfl⟩ := okWide_slice Try.underlying55 hv
  obtain ⟨fuel, hf⟩ := h
  have hf' : DataW.trod enc Try.prog W 0 (fun _ => true) true fuel 55 [.slice a0 len cap] = some (d, ps) := hf
  obtain ⟨v, Rs, h1, h2⟩ := casts_rd hf'
  injection h1 with h1
  subst h1
  exact ⟨Rs, h2⟩
end Go.Proofs.Ytmjnelkeiogdcaa
