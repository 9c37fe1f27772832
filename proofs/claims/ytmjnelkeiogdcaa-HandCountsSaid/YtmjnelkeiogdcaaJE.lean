/- Walks of package hand: Weights. -/
import Derived.Test.YtmjnelkeiogdcaaJD
import Derived.Test.YtmjnelkeiogdcaaPD
set_option linter.unusedSimpArgs false
set_option linter.unusedVariables false
namespace Go.Proofs.Ytmjnelkeiogdcaa
open Go Go.RowKit Go.Shelf
set_option maxRecDepth 100000

theorem mk_ints (W : World) (m : Nat) (hm : m ≤ 100000) : (Instr.makeSlice 24 (.int .i64 ((m : Nat) : Int)) (.int .i64 ((m : Nat) : Int))).run Try.prog W = .ok (.slice (some ⟨W.heap.size, 0, none⟩) m m) (W.alloc (.cells (irow m fun _ => 0) 3)) := by
  obtain ⟨i, hi⟩ := Option.isSome_iff_exists.1 (show (Try.prog.info? 3).isSome = true by kernel_rfl)
  have h1 : (Try.prog.info? 3).map (·.size) = some 1 := by kernel_rfl
  have h2 : (Try.prog.info? 3).map (·.bytes) = some 8 := by kernel_rfl
  have h3 : (Try.prog.info? 3).bind (·.zero) = some (.int .i64 0) := by kernel_rfl
  rw [hi] at h1 h2 h3
  simp only [Option.map_some, Option.some.injEq, Option.bind_some] at h1 h2 h3
  have h := run_makeSlice (P := Try.prog) W 24 3 i (.int .i64 0) Try.underlying24 hi h3 .i64 .i64 ((m : Nat) : Int) ((m : Nat) : Int) (by omega) (Int.le_refl _) (by rw [h1]; omega) (by rw [h2]; omega) (by omega)
  rw [h, h1]
  congr 2
  simp only [Int.toNat_natCast, Nat.mul_one]
  congr 1
  refine Array.ext (by simp [madeCells]) fun j h1 h2 => ?_
  have e : (madeCells (Value.int .i64 0).cells m)[j]? = (irow m fun _ => 0)[j]? := by
    rw [irow_get _ _ _ (by simpa using h2)]
    simp only [madeCells, show (Value.int .i64 0).cells = #[.int .i64 0] from rfl]
    simp [Nat.mod_one, show j < m by simpa using h2]
  rw [Array.getElem?_eq_getElem h1, Array.getElem?_eq_getElem h2] at e
  exact Option.some.inj e
/-- What holds between two layers: the denominator, the weights, the outcomes. -/
def WtK (N : Nat) (H : HV) (fv cv : Value) (m g d wb : Nat) (w : World) (dn : Nat) (F : St → Nat) (out : Nat → Nat) (V : World) : Prop :=
  Boxed V d 3 (.int .i64 ((dn : Nat) : Int)) ∧ (∃ Wm, Boxed V (d + 1 + 1) 75 (.map (some wb)) ∧ MapAt V wb Wm ∧ ∀ t, getS Wm t = ((F t : Nat) : Int)) ∧
  V.heap[d + 3]? = some (.cells (irow m (cst out)) 3 (0, 0)) ∧ Boxed V (d + 3 + 1) 24 (.slice (some ⟨d + 3, 0, none⟩) m m) ∧
  V.heap[g]? = some (.cells (handA H fv cv) 26 (0, 0)) ∧ Boxed V (g + 1) 24 (.slice none 0 0) ∧ Boxed V (g + 1 + 1) 29 (.int .i64 0) ∧ HandAt V N H fv cv ∧ Below g w V
theorem WtK.abd {N : Nat} {H : HV} {fv cv : Value} {m g d wb : Nat} {w : World} {dn : Nat} {F : St → Nat} {out : Nat → Nat} (B : Nat) (hg : g ≤ w.heap.size) (hB : g ≤ B) : Abd B (WtK N H fv cv m g d wb w dn F out) :=
  (Abd.boxed B _ _ _).and ((Abd.ex fun Wm => (Abd.boxed B _ _ _).and ((MapAt.abd B _ _).and (Abd.pure B _))).and ((Abd.block B _ _ rfl).and ((Abd.boxed B _ _ _).and ((Abd.block B _ _ rfl).and ((Abd.boxed B _ _ _).and ((Abd.boxed B _ _ _).and ((HandAt.abd B _ _ _ _).and (Abd.belowOf hg hB))))))))
theorem WtK.below {N : Nat} {H : HV} {fv cv : Value} {m g d wb : Nat} {w : World} {dn : Nat} {F : St → Nat} {out : Nat → Nat} {V V' : World} (hg : g = w.heap.size) (h : WtK N H fv cv m g d wb w dn F out V) (hb : Below V.heap.size V V') : WtK N H fv cv m g d wb w dn F out V' :=
  (WtK.abd (w := w) g (Nat.le_of_eq hg) (Nat.le_refl _)).below _ _ h hb
/-- .. if only a block changes that is none of those. -/
theorem WtK.keep {N : Nat} {H : HV} {fv cv : Value} {m g d wb : Nat} {w : World} {dn : Nat} {F : St → Nat} {out : Nat → Nat} {V V' : World} (h : WtK N H fv cv m g d wb w dn F out V) (hgd : g + 3 ≤ d) (hN : N ≤ g) {r : Nat} (hr : d + 5 ≤ r) (hw : wb ≠ r)
    (hos : V'.os = V.os) (htp : V'.tape = V.tape) (hop : V'.output = V.output) (hsz : V.heap.size ≤ V'.heap.size) (hk : ∀ k, k < V.heap.size → k ≠ r → V'.heap[k]? = V.heap[k]?) : WtK N H fv cv m g d wb w dn F out V' := by
  have key : ∀ (k : Nat) (o : Obj), V.heap[k]? = some o → k ≠ r → V'.heap[k]? = some o := fun k o ho hne => (hk k (Array.getElem?_eq_some_iff.1 ho).1 hne).trans ho
  obtain ⟨h1, ⟨Wm, h2, h3, h4⟩, h5, h6, h7, h8, h9, h10, h11⟩ := h
  have hlt := (Array.getElem?_eq_some_iff.1 h6).1
  refine ⟨key _ _ h1 (by omega), ⟨Wm, key _ _ h2 (by omega), key _ _ h3 hw, h4⟩, key _ _ h5 (by omega), key _ _ h6 (by omega), key _ _ h7 (by omega), key _ _ h8 (by omega), key _ _ h9 (by omega), ?_, ?_⟩
  · exact h10.keptF (S := fun b => b < N) (fun _ h => h) (fun b hb o ho _ => key b o ho (by omega)) (Nat.le_trans h10.le hsz)
  · exact h11.trans ⟨hos, htp, hop, hsz, fun k hk' => hk k (by omega) (by omega)⟩
theorem map_ne {V : World} {b x : Nat} {L : SL} {cs : Array Value} {t : TypeId} {fr : Nat × Nat} (h : MapAt V b L) (hx : V.heap[x]? = some (.cells cs t fr)) : b ≠ x := fun e => by
  subst e
  rw [show V.heap[b]? = _ from h] at hx
  cases hx
theorem WtK.den {N : Nat} {H : HV} {fv cv : Value} {m g d wb : Nat} {w : World} {dn : Nat} {F : St → Nat} {out : Nat → Nat} {V : World} (h : WtK N H fv cv m g d wb w dn F out V) (hgd : g + 3 ≤ d) (hN : N ≤ g) (x : Nat) : WtK N H fv cv m g d wb w x F out (V.setCell ⟨d, 0, none⟩ (.int .i64 ((x : Nat) : Int))) := by
  obtain ⟨h1, ⟨Wm, h2, h3, h4⟩, h5, h6, h7, h8, h9, h10, h11⟩ := h
  have key : ∀ (k : Nat), k ≠ d → (V.setCell ⟨d, 0, none⟩ (.int .i64 ((x : Nat) : Int))).heap[k]? = V.heap[k]? := fun k hk => heap_setCell_other V ⟨d, 0, none⟩ k _ hk
  have hb : Below g V (V.setCell ⟨d, 0, none⟩ (.int .i64 ((x : Nat) : Int))) := ⟨rfl, rfl, rfl, by simp, fun k hk => key k (by omega)⟩
  exact ⟨h1.set _, ⟨Wm, (key _ (by omega)).trans h2, (key _ (map_ne h3 h1)).trans h3, h4⟩, (key _ (by omega)).trans h5, (key _ (by omega)).trans h6, (key _ (by omega)).trans h7, (key _ (by omega)).trans h8, (key _ (by omega)).trans h9, h10.below (hb.mono hN), h11.trans hb⟩
theorem WtK.outc {N : Nat} {H : HV} {fv cv : Value} {m g d wb : Nat} {w : World} {dn : Nat} {F : St → Nat} {out : Nat → Nat} {V : World} (h : WtK N H fv cv m g d wb w dn F out V) (hgd : g + 3 ≤ d) (hN : N ≤ g) (o x : Nat) : WtK N H fv cv m g d wb w dn F (upN out o x) (V.setCell ⟨d + 3, o, none⟩ (.int .i64 ((x : Nat) : Int))) := by
  obtain ⟨h1, ⟨Wm, h2, h3, h4⟩, h5, h6, h7, h8, h9, h10, h11⟩ := h
  have key : ∀ (k : Nat), k ≠ d + 3 → (V.setCell ⟨d + 3, o, none⟩ (.int .i64 ((x : Nat) : Int))).heap[k]? = V.heap[k]? := fun k hk => heap_setCell_other V ⟨d + 3, o, none⟩ k _ hk
  have hb : Below g V (V.setCell ⟨d + 3, o, none⟩ (.int .i64 ((x : Nat) : Int))) := ⟨rfl, rfl, rfl, by simp, fun k hk => key k (by omega)⟩
  have h5' := set_irow h5 o ((x : Nat) : Int)
  rw [upd_cst] at h5'
  exact ⟨(key _ (by omega)).trans h1, ⟨Wm, (key _ (by omega)).trans h2, (key _ (map_ne h3 h5)).trans h3, h4⟩, h5', (key _ (by omega)).trans h6, (key _ (by omega)).trans h7, (key _ (by omega)).trans h8, (key _ (by omega)).trans h9, h10.below (hb.mono hN), h11.trans hb⟩
theorem WtK.wts {N : Nat} {H : HV} {fv cv : Value} {m g d wb : Nat} {w : World} {dn : Nat} {F F' : St → Nat} {out : Nat → Nat} {V : World} (h : WtK N H fv cv m g d wb w dn F out V) (hgd : g + 3 ≤ d) (hN : N ≤ g) {nb : Nat} {M : SL} (hM : MapAt V nb M) (hF : ∀ t, getS M t = ((F' t : Nat) : Int)) : WtK N H fv cv m g d nb w dn F' out (V.setCell ⟨d + 1 + 1, 0, none⟩ (.map (some nb))) := by
  obtain ⟨h1, ⟨Wm, h2, h3, h4⟩, h5, h6, h7, h8, h9, h10, h11⟩ := h
  have key : ∀ (k : Nat), k ≠ d + 1 + 1 → (V.setCell ⟨d + 1 + 1, 0, none⟩ (.map (some nb))).heap[k]? = V.heap[k]? := fun k hk => heap_setCell_other V ⟨d + 1 + 1, 0, none⟩ k _ hk
  have hb : Below g V (V.setCell ⟨d + 1 + 1, 0, none⟩ (.map (some nb))) := ⟨rfl, rfl, rfl, by simp, fun k hk => key k (by omega)⟩
  exact ⟨(key _ (by omega)).trans h1, ⟨M, h2.set _, (key _ (map_ne hM h2)).trans hM, hF⟩, (key _ (by omega)).trans h5, (key _ (by omega)).trans h6, (key _ (by omega)).trans h7, (key _ (by omega)).trans h8, (key _ (by omega)).trans h9, h10.below (hb.mono hN), h11.trans hb⟩
theorem WtK.cong {N : Nat} {H : HV} {fv cv : Value} {m g d wb : Nat} {w : World} {dn : Nat} {F : St → Nat} {out out' : Nat → Nat} {V : World} (h : WtK N H fv cv m g d wb w dn F out V) (ho : ∀ o, o < m → out o = out' o) : WtK N H fv cv m g d wb w dn F out' V :=
  ⟨h.1, h.2.1, by rw [show irow m (cst out') = irow m (cst out) from irow_congr fun o h => by simp [cst, ho o h]]; exact h.2.2.1, h.2.2.2⟩
/-- What holds while a layer is gone through. -/
def InW (N : Nat) (H : HV) (fv cv : Value) (m g d wb : Nat) (w : World) (dn : Nat) (F : St → Nat) (b : Nat) (L : SL) (cb nb xb r cc : Nat) (out : Nat → Nat) (T : St → Nat) (vis : SL) (X : World) : Prop :=
  WtK N H fv cv m g d wb w dn F out X ∧ Boxed X cb 3 (.int .i64 ((cc : Nat) : Int)) ∧ (∃ M, MapAt X nb M ∧ ∀ t, getS M t = ((T t : Nat) : Int)) ∧ Boxed X xb 75 (.map (some nb)) ∧ RangeS X r b L vis
theorem InW.abd {N : Nat} {H : HV} {fv cv : Value} {m g d wb : Nat} {w : World} {dn : Nat} {F : St → Nat} {b : Nat} {L : SL} {cb nb xb r cc : Nat} {out : Nat → Nat} {T : St → Nat} {vis : SL} (B : Nat) (hg : g ≤ w.heap.size) (hB : g ≤ B) : Abd B (InW N H fv cv m g d wb w dn F b L cb nb xb r cc out T vis) :=
  (WtK.abd B hg hB).and ((Abd.boxed B _ _ _).and ((Abd.ex fun M => (MapAt.abd B _ _).and (Abd.pure B _)).and ((Abd.boxed B _ _ _).and (RangeS.abd B _ _ _ _))))
theorem InW.below {N : Nat} {H : HV} {fv cv : Value} {m g d wb : Nat} {w : World} {dn : Nat} {F : St → Nat} {b : Nat} {L : SL} {cb nb xb r cc : Nat} {out : Nat → Nat} {T : St → Nat} {vis : SL} {X X' : World} (hg : g = w.heap.size) (h : InW N H fv cv m g d wb w dn F b L cb nb xb r cc out T vis X) (hb : Below X.heap.size X X') : InW N H fv cv m g d wb w dn F b L cb nb xb r cc out T vis X' :=
  (InW.abd (w := w) g (Nat.le_of_eq hg) (Nat.le_refl _)).below _ _ h hb
theorem InW.next {N : Nat} {H : HV} {fv cv : Value} {m g d wb : Nat} {w : World} {dn : Nat} {F : St → Nat} {b : Nat} {L : SL} {cb nb xb r cc : Nat} {out : Nat → Nat} {T : St → Nat} {vis vis' : SL} {X X' : World} (h : InW N H fv cv m g d wb w dn F b L cb nb xb r cc out T vis X) (hgd : g + 3 ≤ d) (hN : N ≤ g) (hr5 : d + 5 ≤ r) (hg : X.grownBy X' (some r)) (hr : RangeS X' r b L vis') :
    InW N H fv cv m g d wb w dn F b L cb nb xb r cc out T vis' X' := by
  obtain ⟨hw, hc, ⟨M, hM, hT⟩, hx, ⟨hm, seen, hit, hv⟩⟩ := h
  have ne : ∀ (k : Nat) (o : Obj), X.heap[k]? = some o → (∀ q w s z, o ≠ .mapIter q w s z) → k ≠ r := fun k o ho hno e => by
    subst e
    rw [hit] at ho
    cases ho
    exact hno _ _ _ _ rfl
  have key : ∀ (k : Nat) (o : Obj), X.heap[k]? = some o → k ≠ r → X'.heap[k]? = some o := fun k o ho hk => grown_block hg ho hk
  obtain ⟨Wm, hw2, hw3, hw4⟩ := hw.2.1
  refine ⟨hw.keep hgd hN hr5 (ne _ _ hw3 (fun _ _ _ _ e => by cases e)) hg.os hg.tape hg.output hg.size (fun k hk hne => hg.block k hk (by simpa using hne)), key _ _ hc (ne _ _ hc (fun _ _ _ _ e => by cases e)), ⟨M, key _ _ hM (ne _ _ hM (fun _ _ _ _ e => by cases e)), hT⟩, key _ _ hx (ne _ _ hx (fun _ _ _ _ e => by cases e)), hr⟩
theorem InW.put {N : Nat} {H : HV} {fv cv : Value} {m g d wb : Nat} {w : World} {dn : Nat} {F : St → Nat} {b : Nat} {L : SL} {cb nb xb r cc : Nat} {out : Nat → Nat} {T T' : St → Nat} {vis : SL} {X : World} (h : InW N H fv cv m g d wb w dn F b L cb nb xb r cc out T vis X) (hgd : g + 3 ≤ d) (hN : N ≤ g) (hn5 : d + 5 ≤ nb) (hwn : wb ≠ nb) (hbn : b ≠ nb) {M' : SL} (hT' : ∀ t, getS M' t = ((T' t : Nat) : Int)) :
    InW N H fv cv m g d wb w dn F b L cb nb xb r cc out T' vis (X.putObj nb (mapO M')) := by
  obtain ⟨hw, hc, ⟨M, hM, hT⟩, hx, ⟨hm, seen, hit, hv⟩⟩ := h
  have hcn : cb ≠ nb := (map_ne hM hc).symm
  have hxn : xb ≠ nb := (map_ne hM hx).symm
  have hrn : r ≠ nb := fun e => by subst e; rw [show X.heap[r]? = _ from hM] at hit; cases hit
  refine ⟨hw.keep hgd hN hn5 hwn rfl rfl rfl (by simp [World.putObj]) (fun k _ hk => World.putObj_heap_other hk), (World.putObj_heap_other hcn).trans hc, ⟨M', hM.put, hT'⟩, (World.putObj_heap_other hxn).trans hx, ⟨hm.other _ hbn, seen, (World.putObj_heap_other hrn).trans hit, hv⟩⟩
theorem InW.outc {N : Nat} {H : HV} {fv cv : Value} {m g d wb : Nat} {w : World} {dn : Nat} {F : St → Nat} {b : Nat} {L : SL} {cb nb xb r cc : Nat} {out : Nat → Nat} {T : St → Nat} {vis : SL} {X : World} (h : InW N H fv cv m g d wb w dn F b L cb nb xb r cc out T vis X) (hgd : g + 3 ≤ d) (hN : N ≤ g) (hc5 : d + 5 ≤ cb) (hx5 : d + 5 ≤ xb) (o x : Nat) :
    InW N H fv cv m g d wb w dn F b L cb nb xb r cc (upN out o x) T vis (X.setCell ⟨d + 3, o, none⟩ (.int .i64 ((x : Nat) : Int))) := by
  obtain ⟨hw, hc, ⟨M, hM, hT⟩, hx, ⟨hm, seen, hit, hv⟩⟩ := h
  have ho := hw.2.2.1
  have key : ∀ (k : Nat), k ≠ d + 3 → (X.setCell ⟨d + 3, o, none⟩ (.int .i64 ((x : Nat) : Int))).heap[k]? = X.heap[k]? := fun k hk => heap_setCell_other X ⟨d + 3, o, none⟩ k _ hk
  have hr3 : r ≠ d + 3 := fun e => by subst e; rw [hit] at ho; cases ho
  exact ⟨hw.outc hgd hN o x, (key _ (by omega)).trans hc, ⟨M, (key _ (map_ne hM ho)).trans hM, hT⟩, (key _ (by omega)).trans hx, ⟨(key _ (map_ne hm ho)).trans hm, seen, (key _ hr3).trans hit, hv⟩⟩
theorem lay_com {H : HV} {s0 : St} {k : Nat} {L : SL} (hL : LayerL H s0 k L) : lcmL (chsL L) = comK H s0 k := lcmL_congr _ _ fun c _ => by
  unfold chsL
  rw [List.mem_map, List.mem_map]
  constructor
  · rintro ⟨p, hp, rfl⟩
    refine ⟨p.1, (mem_lay H s0 k p.1).2 ((hL.2.1 p.1).1 (List.mem_map.2 ⟨p, hp, rfl⟩)), ?_⟩
    rw [hL.2.2 p hp]
    rfl
  · rintro ⟨s, hs, rfl⟩
    obtain ⟨p, hp, rfl⟩ := List.mem_map.1 ((hL.2.1 s).2 ((mem_lay H s0 k s).1 hs))
    refine ⟨p, hp, ?_⟩
    rw [hL.2.2 p hp]
    rfl
theorem RangeS.nodup {W : World} {r b : Nat} {L vis : SL} (h : RangeS W r b L vis) (hn : (L.map Prod.fst).Nodup) : (vis.map Prod.fst).Nodup := by
  obtain ⟨_, seen, _, hv⟩ := h
  rw [hv.eq, List.map_map]
  refine List.pairwise_map.2 (List.Pairwise.imp_of_mem (fun {i j} hi hj hne e => ?_) hv.nodup)
  have hi' := hv.lt i hi
  have hj' := hv.lt j hj
  simp only [Function.comp, List.getD_eq_getElem?_getD, List.getElem?_eq_getElem hi', List.getElem?_eq_getElem hj', Option.getD_some] at e
  have h1 : (L.map Prod.fst)[i]'(by simpa using hi') = (L.map Prod.fst)[j]'(by simpa using hj') := by simpa using e
  exact hne ((List.getElem_inj hn).1 h1)
theorem exec_getS {T : TypeId} (hT : MapT T) {ev : Operand → Value} {o : Oper} {x y : Operand} {nb : Nat} {W : World} {M : SL} {s : St} {v : Int} (ho : o.op = .lookup T x y false) (hx : ev x = .map (some nb)) (hy : ev y = encS s) (hM : MapAt W nb M) (hv : getS M s = v) :
    (execOp ev o).run Try.prog W = .ok (.value (.int .i64 v)) W := by
  have h := run_lookupS hT hM s
  rw [hv] at h
  simp [execOp, ho, hx, hy, h, go_sem]
theorem wp_enter {P : Program} {o : Oper} {a : Act} {w : World} {K : Act → World → Prop} {Q' : Exit → Act → World → Prop} {f : FuncId} {args : Array Value} (hrun : (execOp a.eval o).run P w = .ok (.enter f args) w)
    (h : Calls P f args w fun e w' => ∃ v, e = .returned v ∧ K (a.put o.dst v) w') : o.wp P a w K Q' := by
  unfold Oper.wp
  rw [hrun]
  exact h.mono fun e w' ⟨v, he, hk⟩ => by subst he; exact hk
theorem exec_ix {ev : Operand → Value} {o : Oper} {x y : Operand} {bs m i : Nat} {W : World} (ho : o.op = .indexAddr 24 x y) (hx : ev x = .slice (some ⟨bs, 0, none⟩) m m) (hy : ev y = .int .i64 ((i : Nat) : Int)) (hi : i < m) :
    (execOp ev o).run Try.prog W = .ok (.value (.pointer (some ⟨bs, i, none⟩))) W := by
  have h : ¬ ((i : Int) < 0) := by omega
  simp [execOp, ho, hx, hy]
  go_simp
theorem exec_ldcell {ev : Operand → Value} {o : Oper} {x : Operand} {p : Addr} {W : World} {v : Value} (ho : o.op = .load 3 x) (hx : ev x = .pointer (some p)) (hg : W.cell? p = some v) :
    (execOp ev o).run Try.prog W = .ok (.value v) W := by
  simp [execOp, ho, hx]
  go_simp
theorem store_first {P : Program} (W : World) (t : TypeId) (u v : Value) (hv : v.oneCell' = true) (c2 : Array Value) (t2 : TypeId) : (store ⟨W.heap.size, 0, none⟩ v).run P ((W.alloc (.cells #[u] t)).alloc (.cells c2 t2)) = .ok () ((W.alloc (.cells #[v] t)).alloc (.cells c2 t2)) := by
  have hbx : Boxed ((W.alloc (.cells #[u] t)).alloc (.cells c2 t2)) W.heap.size t u := alloc2_first W _ _
  have h1 := run_store P ((W.alloc (.cells #[u] t)).alloc (.cells c2 t2)) ⟨W.heap.size, 0, none⟩ v .plain hv
  rw [hbx.cell] at h1
  simp only [hbx.frozen, Bool.false_eq_true, if_false] at h1
  rw [h1]
  congr 1
  rw [World.setCell_alloc_past _ _ _ _ (by simp), World.setCell_alloc_at _ _ _ _ _ rfl]
  rfl
theorem exec_ldsl {ev : Operand → Value} {o : Oper} {x : Operand} {g : Nat} {W : World} {v : Value} (ho : o.op = .load 24 x) (hx : ev x = .pointer (some ⟨g, 0, none⟩)) (hg : Boxed W g 24 v) :
    (execOp ev o).run Try.prog W = .ok (.value v) W := by
  have hc := hg.cell
  simp [execOp, ho, hx]
  go_simp
theorem exec_addN {ev : Operand → Value} {o : Oper} {x y : Operand} {W : World} {a b : Nat} (ho : o.op = .binOp .add 3 x y 3) (hx : ev x = .int .i64 ((a : Nat) : Int)) (hy : ev y = .int .i64 ((b : Nat) : Int)) (h : a + b ≤ 9000000000000000000) :
    (execOp ev o).run Try.prog W = .ok (.value (.int .i64 ((a + b : Nat) : Int))) W := by
  have e : IntKind.i64.wrap ((a : Int) + b) = _ := IntWalk.i64_in _ (by omega)
  simp [execOp, ho, hx, hy, go_sem, e]
theorem exec_mulN {ev : Operand → Value} {o : Oper} {x y : Operand} {W : World} {a b : Nat} (ho : o.op = .binOp .mul 3 x y 3) (hx : ev x = .int .i64 ((a : Nat) : Int)) (hy : ev y = .int .i64 ((b : Nat) : Int)) (h : a * b ≤ 9000000000000000000) :
    (execOp ev o).run Try.prog W = .ok (.value (.int .i64 ((a * b : Nat) : Int))) W := by
  have hh : ((a * b : Nat) : Int) = (a : Int) * b := by simp
  have e : IntKind.i64.wrap ((a : Int) * b) = _ := IntWalk.i64_in _ (by omega)
  simp [execOp, ho, hx, hy, go_sem, e]
theorem exec_quoN {ev : Operand → Value} {o : Oper} {x y : Operand} {W : World} {a b : Nat} (ho : o.op = .binOp .quo 3 x y 3) (hx : ev x = .int .i64 ((a : Nat) : Int)) (hy : ev y = .int .i64 ((b : Nat) : Int)) (h : a ≤ 9000000000000000000) (hb : 0 < b) :
    (execOp ev o).run Try.prog W = .ok (.value (.int .i64 ((a / b : Nat) : Int))) W := by
  have hz : ¬ b = 0 := by omega
  have hd : a / b ≤ a := Nat.div_le_self a b
  obtain ⟨q, hq⟩ : ∃ q, a / b = q := ⟨_, rfl⟩
  have ht : (a : Int) / (b : Int) = (q : Int) := by rw [← hq]; simp
  rw [hq] at hd
  have e : IntKind.i64.wrap (q : Int) = _ := IntWalk.i64_in _ (by omega)
  simp [execOp, ho, hx, hy, go_sem, hz, ht, e, hq]
theorem results_22 {P : Program} {fn : Func} {p q : Tmp} {T U : TypeId} (h : fn.results = #[.cell p T, .cell q U]) {tmps : Array Value} {W : World} {b c : Nat} {v u : Value} (hp : tmps.getD p undef = .pointer (some ⟨b, 0, none⟩)) (hq : tmps.getD q undef = .pointer (some ⟨c, 0, none⟩)) (ha : ∀ w, (isAgg T).run P w = .ok false w) (ha' : ∀ w, (isAgg U).run P w = .ok false w)
    (hb : Boxed W b T v) (hc : Boxed W c U u) : (results fn tmps).run P W = .ok (.tuple #[v, u]) W := by
  have hp' : tmps[p]?.getD undef = .pointer (some ⟨b, 0, none⟩) := by simpa using hp
  have hq' : tmps[q]?.getD undef = .pointer (some ⟨c, 0, none⟩) := by simpa using hq
  have h1 := hb.cell
  have h2 := hc.cell
  simp [results, h, hp', hq', asAddr]
  go_simp
attribute [local go_sem] Oper.semAt_some
set_option maxHeartbeats 4000000 in
theorem Weights_in (n : Nat) (hn : 24 ≤ n) (N : Nat) (H : HV) (hV : Val H) (fv cv : Value) (w : World) (hR : RawAt w N (rawOf H) fv cv) :
    CallsIn Fence.wide n Try.prog 14 #[.agg (handA H fv cv)] w fun e w' => Below w.heap.size w w' ∧
      ((dnK H (beginS H) (dep (beginS H)) ≤ 1000000000000000 ∧ ∃ ob, w.heap.size ≤ ob ∧ e = .returned (.tuple #[.slice (some ⟨ob, 0, none⟩) (outsN H) (outsN H), .int .i64 0]) ∧ w'.heap[ob]? = some (.cells (irow (outsN H) (cst fun o => rawW H (beginS H) o / gcdW (rawW H (beginS H)) (outsN H))) 3 (0, 0))) ∨
        (¬ dnK H (beginS H) (dep (beginS H)) ≤ 1000000000000000 ∧ e = .returned (.tuple #[.slice none 0 0, .int .i64 8]))) := by
  have hx := alloc3_0 w (.cells (handA H fv cv) 26) (.cells #[.slice none 0 0] 24) (.cells #[.int .i64 0] 29)
  have hy := alloc3_1 w (.cells (handA H fv cv) 26) (.cells #[.slice none 0 0] 24) (.cells #[.int .i64 0] 29)
  have hz := alloc3_2 w (.cells (handA H fv cv) 26) (.cells #[.slice none 0 0] 24) (.cells #[.int .i64 0] 29)
  have hb := below3 w (.cells (handA H fv cv) 26) (.cells #[.slice none 0 0] 24) (.cells #[.int .i64 0] 29)
  have hs : (((w.alloc (.cells (handA H fv cv) 26)).alloc (.cells #[.slice none 0 0] 24)).alloc (.cells #[.int .i64 0] 29)).heap.size = w.heap.size + 3 := by simp
  have hR1 := hR.below (hb.mono hR.le)
  have HX := hid hx
  have HY := hid hy
  have HZ := hid hz
  have HB := hid hb
  have HCK := hid (check_yes H hV fv cv N _ hR1)
  have HR := hid hR1
  have HBG := hid (fun W hW => begin_c N H fv cv hV.hand.ok W hW)
  have HLY := hid (fun s W hW => layers_c N H fv cv s W hW)
  have hmm := @run_makeMap Try.prog
  clear hx hy hz hb hR1
  refine callsIn_of_wp_marks Try.func14 rfl trivial ?_ rfl
  simp only [Try.ntmps14, List.size_toArray, List.length_cons, List.length_nil, Nat.reduceAdd, Nat.reduceSub, Array.replicate_succ, Array.replicate_zero, List.push_toArray, List.append_toArray, List.nil_append, List.cons_append]
  gi_upto_region 5 with (first
    | (refine wpListIn_value lets_wide rfl (by intro c hc; cases hc) (.agg (handA H fv cv)) (exec_ldhand rfl rfl HX.out) ?_)
    | (gi_at_call 26; refine (callsIn_wide.2 HCK.out).mono ?_; rintro e w2 ⟨rfl, hb2⟩; have HX := hid (heap_below hb2 HX.out (heap_lt HX.out)); have HY := hid (heap_below hb2 HY.out (heap_lt HY.out)); have HZ := hid (heap_below hb2 HZ.out (heap_lt HZ.out)); have HB := hid (HB.out.trans (hb2.mono HB.out.size)); have HR := hid (HR.out.below (hb2.mono HR.out.le)); clear hb2 HCK)
    | (gi_at_call 41; refine (callsIn_wide.2 (HBG.out _ (HandAt.of HR.out))).mono ?_; rintro e w3 ⟨rfl, hb3⟩; have HX := hid (heap_below hb3 HX.out (heap_lt HX.out)); have HY := hid (heap_below hb3 HY.out (heap_lt HY.out)); have HZ := hid (heap_below hb3 HZ.out (heap_lt HZ.out)); have HB := hid (HB.out.trans (hb3.mono HB.out.size)); have HR := hid (HR.out.below (hb3.mono HR.out.le)); clear hb3 HBG))
  have hF0 := begin_fit H hV.hand.ok
  have hL0 := hV.hand.last
  obtain ⟨s0, hs0⟩ : ∃ s0, beginS H = s0 := ⟨_, rfl⟩
  rw [hs0] at hF0 hL0 ⊢
  have hmany : outsN H ≤ 100000 := by have := (outs_le H hV.hand.ok).2; omega
  obtain ⟨m, hmm'⟩ : ∃ m, outsN H = m := ⟨_, rfl⟩
  rw [hmm'] at hmany ⊢
  gi_upto_region 6 with fail
  have hT : MapT 75 := Try.underlying75
  have hm6 : MapAt ((w3.alloc (.cells #[.int .i64 1] 3)).alloc (.map #[] 0)) (w3.heap.size + 1) [] := alloc2_second w3 _ _
  have hins := run_updateS hT hm6 s0 1
  rw [putS_nil] at hins
  have hmk := fun W => mk_ints W m hmany
  gi_upto_region 7 with fail
  have hs5 : ((((w3.alloc (.cells #[.int .i64 1] 3)).alloc (.map #[] 0)).putObj (w3.heap.size + 1) (mapO [(s0, 1)])).alloc (.cells #[.map (some (w3.heap.size + 1))] 75)).heap.size = w3.heap.size + 3 := by simp [World.putObj]
  have hB4 : Below w3.heap.size w3 (((w3.alloc (.cells #[.int .i64 1] 3)).alloc (.map #[] 0)).putObj (w3.heap.size + 1) (mapO [(s0, 1)])) := (below2 w3 _ _).trans ⟨rfl, rfl, rfl, by simp [World.putObj], fun k hk => World.putObj_heap_other (by omega)⟩
  have hs4 : (((w3.alloc (.cells #[.int .i64 1] 3)).alloc (.map #[] 0)).putObj (w3.heap.size + 1) (mapO [(s0, 1)])).heap.size = w3.heap.size + 2 := by simp [World.putObj]
  have hd4 : (((w3.alloc (.cells #[.int .i64 1] 3)).alloc (.map #[] 0)).putObj (w3.heap.size + 1) (mapO [(s0, 1)])).heap[w3.heap.size]? = some (.cells #[.int .i64 1] 3 (0, 0)) := (World.putObj_heap_other (by omega)).trans (alloc2_first w3 _ _)
  have hm4 : MapAt (((w3.alloc (.cells #[.int .i64 1] 3)).alloc (.map #[] 0)).putObj (w3.heap.size + 1) (mapO [(s0, 1)])) (w3.heap.size + 1) [(s0, 1)] := hm6.put
  clear hm6 hins
  generalize ((w3.alloc (.cells #[.int .i64 1] 3)).alloc (.map #[] 0)).putObj (w3.heap.size + 1) (mapO [(s0, 1)]) = w4 at *
  gi_upto_region 8 with fail
  have hb6 : Below w4.heap.size w4 (((w4.alloc (.cells #[.map (some (w3.heap.size + 1))] 75)).alloc (.cells (irow m fun _ => 0) 3)).alloc (.cells #[.slice (some ⟨w4.heap.size + 1, 0, none⟩) m m] 24)) := below3 w4 _ _ _
  have hs6 : (((w4.alloc (.cells #[.map (some (w3.heap.size + 1))] 75)).alloc (.cells (irow m fun _ => 0) 3)).alloc (.cells #[.slice (some ⟨w4.heap.size + 1, 0, none⟩) m m] 24)).heap.size = w4.heap.size + 3 := by simp
  have hw6 := alloc3_0 w4 (.cells #[.map (some (w3.heap.size + 1))] 75) (.cells (irow m fun _ => 0) 3) (.cells #[.slice (some ⟨w4.heap.size + 1, 0, none⟩) m m] 24)
  have ho6 := alloc3_1 w4 (.cells #[.map (some (w3.heap.size + 1))] 75) (.cells (irow m fun _ => 0) 3) (.cells #[.slice (some ⟨w4.heap.size + 1, 0, none⟩) m m] 24)
  have hx6 := alloc3_2 w4 (.cells #[.map (some (w3.heap.size + 1))] 75) (.cells (irow m fun _ => 0) 3) (.cells #[.slice (some ⟨w4.heap.size + 1, 0, none⟩) m m] 24)
  have e1 : w4.heap.size + 1 = w3.heap.size + 3 := by omega
  rw [e1] at ho6
  rw [e1] at hx6
  rw [e1] at hb6 hs6 hw6
  rw [hs4] at hw6
  obtain ⟨w6, hw6'⟩ : ∃ w6, ((w4.alloc (.cells #[.map (some (w3.heap.size + 1))] 75)).alloc (.cells (irow m fun _ => 0) 3)).alloc (.cells #[.slice (some ⟨w3.heap.size + 3, 0, none⟩) m m] 24) = w6 := ⟨_, rfl⟩
  rw [hw6'] at hb6 hs6 hw6 ho6 hx6 ⊢
  clear hw6'
  have hbw : Below w3.heap.size w3 w6 := hB4.trans (hb6.mono (by omega))
  have hBt := HB.out.trans (hbw.mono HB.out.size)
  have hg3 : w.heap.size + 3 ≤ w3.heap.size := by have := heap_lt HZ.out; omega
  have hN3 := hR.le
  have HR6 := hid (HR.out.below (hbw.mono HR.out.le))
  have HW0 := hid (show WtK N H fv cv m w.heap.size w3.heap.size (w3.heap.size + 1) w (dnK H s0 0) (fw H s0 0) (fun _ => 0) w6 from
    ⟨heap_below hb6 hd4 (by omega), ⟨[(s0, 1)], hw6, heap_below hb6 hm4 (by omega), fun t => by
        by_cases h : t = s0
        · subst h; simp [getS, findS, fw, fwd, sumAt]
        · have h' : ¬ s0 = t := fun e => h e.symm
          simp [getS, findS, fw, fwd, sumAt, h, h']⟩,
      by rw [show irow m (cst fun _ => 0) = irow m (fun _ => 0) from irow_congr fun i _ => by simp]; exact ho6, hx6, heap_below hbw HX.out (heap_lt HX.out), heap_below hbw HY.out (heap_lt HY.out), heap_below hbw HZ.out (heap_lt HZ.out), HandAt.of HR6.out, hBt⟩)
  have hs6d : w6.heap.size = w3.heap.size + 5 := by omega
  clear hb6 hs6 hw6 ho6 hx6 hd4 hm4 hB4 hbw hBt hs5 hs4 e1 HX HY HZ HB HR HR6 hs
  gi_wp2_with (first
    | (refine wpListIn_value lets_wide rfl (by intro c hc; cases hc) (.agg (handA H fv cv)) (exec_ldhand rfl rfl HW0.out.2.2.2.2.1) ?_)
    | (gi_at_call 42; refine (callsIn_wide.2 (HLY.out s0 _ HW0.out.2.2.2.2.2.2.2.1)).mono ?_; rintro e w7 ⟨rfl, hb7, hs7, hly7⟩))
  have HW1 := hid (HW0.out.below rfl hb7)
  obtain ⟨g, hg⟩ : ∃ g, w.heap.size = g := ⟨_, rfl⟩
  obtain ⟨d, hd⟩ : ∃ d, w3.heap.size = d := ⟨_, rfl⟩
  rw [hg, hd] at HW1 hg3
  have hs6' : w6.heap.size = d + 5 := by omega
  rw [hs6'] at hly7 hs7
  have hSQ := layers1_seq (n - 1) (by omega) N (d + 5 + 1) (d + 5) (d + 5) (d + 5 + 2) ⟨by omega, by omega⟩ ⟨by omega, by omega⟩ H fv cv s0 hF0 w7 hly7
  rw [hg] at hN3
  rw [hg, hd]
  clear HW0 hb7 hly7 hs6' hs6d HLY hmk hmm
  gi_wp2_with fail
  obtain ⟨outK, houtK⟩ : ∃ outK : Nat → Nat → Nat, outK = fun k o => if dep s0 < k then rawW H s0 o else 0 := ⟨_, rfl⟩
  apply rg_outA rfl (show 1 ≤ n by omega) (gf := 67) (lb := #[.pointer (some ⟨d + 5 + 1, 0, none⟩), .pointer (some ⟨d + 5, 0, none⟩)]) rfl trivial (enters_of Try.func67 (by kernel_rfl) rfl) hSQ (fun _ => rfl)
    (fun pre V => dnK H s0 pre.length ≤ 1000000000000000 ∧ ∃ wb, WtK N H fv cv m g d wb w (dnK H s0 pre.length) (fw H s0 pre.length) (outK pre.length) V)
    (fun c pre V => c = .ret ∧ ¬ dnK H s0 (dep s0) ≤ 1000000000000000 ∧ Boxed V (g + 1) 24 (.slice none 0 0) ∧ Boxed V (g + 1 + 1) 29 (.int .i64 8) ∧ Below g w V)
    (fun pre => (Abd.pure _ _).and (Abd.ex fun wb => WtK.abd _ (Nat.le_of_eq hg.symm) (by omega))) (fun _ _ => (Abd.pure _ _).and ((Abd.pure _ _).and ((Abd.boxed _ _ _ _).and ((Abd.boxed _ _ _ _).and (Abd.belowOf (Nat.le_of_eq hg.symm) (by omega)))))) (fun pre b => Abd.ex fun L => (MapAt.abd _ b L).and (Abd.pure _ _))
    ⟨show dnK H s0 0 ≤ 1000000000000000 by simp [dnK, comL, prodL], d + 1, by rw [houtK]; exact HW1.out⟩
  case hassign =>
    intro l2 pre x V K hi ho hK
    gi_wp2_with fail
    first | rfl | exact hK _ rfl
  case hbody =>
    rintro l pre b V hl hr ⟨hdn, wb, hW⟩ ⟨L, hMb, hLy⟩
    obtain ⟨k, hk⟩ : ∃ k, pre.length = k := ⟨_, rfl⟩
    have hk1 : (pre ++ [b]).length = k + 1 := by simp [hk]
    rw [hk] at hdn hW hLy
    have hLc : ∀ p ∈ L, ∃ c : Nat, p.2 = ((c : Nat) : Int) ∧ c ≤ 20000 := fun p hp => ⟨chN H p.1, hLy.2.2 p hp, brs_small H p.1 (reach_fit H s0 hF0 k p.1 ((hLy.2.1 p.1).1 (List.mem_map.2 ⟨p, hp, rfl⟩))).1⟩
    have hcm := common_c b L hLc V hMb
    rw [lay_com hLy] at hcm
    have hsc := satN_le (comK H s0 k)
    have htm := times_sat (dnK H s0 k) (satN (comK H s0 k))
    rw [sat_mul', ← dn_succ] at htm
    have hTI := fun W => times_c (dnK H s0 k) (satN (comK H s0 k)) (by omega) (by omega) W
    rw [htm] at hTI
    have hsd := satN_le (dnK H s0 (k + 1))
    have HSC := hid (rfl : satN (comK H s0 k) = satN (comK H s0 k))
    obtain ⟨cc, hcc⟩ : ∃ cc, satN (comK H s0 k) = cc := ⟨_, rfl⟩
    obtain ⟨dd, hdd⟩ : ∃ dd, satN (dnK H s0 (k + 1)) = dd := ⟨_, rfl⟩
    rw [hcc] at hcm hTI
    rw [hdd] at hTI
    have HCM := hid hcm
    have HTI := hid hTI
    have HW := hid hW
    have HMB := hid hMb
    have HLY := hid hLy
    have HCC := hid hcc
    have HDD := hid hdd
    have HDN := hid hdn
    have HK1 := hid hk1
    have hlV : l < V.heap.size := by obtain ⟨r0, hr0⟩ := hr; exact heap_lt hr0
    have HR0 := hid hr
    have hdd1 : dd ≤ 1000000000000001 := by rw [← hdd]; exact hsd
    clear hcm hTI hW hMb hLy hLc htm hsd hsc HSC hcc hdd hdn hk1 hk hr
    gi_upto_region 11 with (gi_at_call 43; refine (CallsIn.inRound l (callsIn_wide.2 HCM.out)).mono ?_; rintro e V1 ⟨rfl, hb1⟩)
    have hb2 : Below V.heap.size V (V1.alloc (.cells #[.int .i64 ((cc : Nat) : Int)] 3)) := hb1.alloc hb1.size _
    have hcb := heap_alloc_new V1 (.cells #[.int .i64 ((cc : Nat) : Int)] 3)
    have hcl : V.heap.size ≤ V1.heap.size := hb1.size
    have HB2 := hid hb2
    have HCB := hid hcb
    obtain ⟨cb, hcb'⟩ : ∃ cb, V1.heap.size = cb := ⟨_, rfl⟩
    rw [hcb'] at HCB hcl ⊢
    generalize V1.alloc (.cells #[.int .i64 ((cc : Nat) : Int)] 3) = V2 at *
    have hW2 := HW.out.below hg.symm HB2.out
    have hc7 := hW2.1.cell
    have hf7 := hW2.1.frozen
    have hc11 : V2.cell? ⟨cb, 0, none⟩ = some (.int .i64 ((cc : Nat) : Int)) := Boxed.cell HCB.out
    have HW3 := hid (hW2.den hg3 hN3 dd)
    have HKL3 := hid ((KeepsL.below HB2.out).setCell (i := 0) (.int .i64 ((dd : Nat) : Int)) hW2.1)
    have HCB3 := hid ((heap_setCell_other V2 ⟨d, 0, none⟩ cb (.int .i64 ((dd : Nat) : Int)) (show cb ≠ d by have := heap_lt HW.out.1; omega)).trans HCB.out)
    have hne : ¬ (SBr N (d + 5) (d + 5 + 2) d ∨ d = b) := by have := map_ne HMB.out HW.out.1; unfold SBr; omega
    have HKS3 := hid ((KeptS.below (S := fun k => SBr N (d + 5) (d + 5 + 2) k ∨ k = b) HB2.out).setCell (i := 0) (.int .i64 ((dd : Nat) : Int)) hne)
    clear hb1 hb2 hcb hcb' hW2 HB2 HCB hne
    gi_upto_region 12 with (gi_at_call 44; refine (CallsIn.inRound l (callsIn_wide.2 (HTI.out _))).mono ?_; rintro e X1 ⟨rfl, rfl⟩)
    obtain ⟨V3, hV3⟩ : ∃ V3, V2.setCell ⟨d, 0, none⟩ (.int .i64 ((dd : Nat) : Int)) = V3 := ⟨_, rfl⟩
    rw [hV3] at HW3 HKL3 HKS3 HCB3 ⊢
    clear hV3 hc7 hf7 hc11
    have hc7 := HW3.out.1.cell
    by_cases hle : dd ≤ 1000000000000000
    · have hz1 : decide ((1000000000000000 : Int) < ((dd : Nat) : Int)) = false := decide_eq_false (by omega)
      have hz1' : ¬ (1000000000000000 : Int) < ((dd : Nat) : Int) := by omega
      have hdk : dnK H s0 (k + 1) ≤ 1000000000000000 := (satN_small _).1 (by rw [HDD.out]; exact hle)
      have hde : dd = dnK H s0 (k + 1) := by rw [← HDD.out]; exact satN_id _ hdk
      have hck : comK H s0 k ≤ dnK H s0 (k + 1) := by
        rw [dn_succ]
        have := Nat.mul_le_mul_right (comK H s0 k) (dn_pos H s0 k)
        omega
      have hce : cc = comK H s0 k := by rw [← HCC.out]; exact satN_id _ (by omega)
      have HDK := hid hdk
      have HDE := hid hde
      have HCE := hid hce
      have hmm := @run_makeMap Try.prog
      have hMb3 : MapAt V3 b L := HKS3.out b (.inr rfl) _ HMB.out rfl
      have hb4 := below2 V3 (.map #[] 0) (.cells #[.map (some V3.heap.size)] 75)
      have hs4 : ((V3.alloc (.map #[] 0)).alloc (.cells #[.map (some V3.heap.size)] 75)).heap.size = V3.heap.size + 2 := by simp
      have hm4 : MapAt ((V3.alloc (.map #[] 0)).alloc (.cells #[.map (some V3.heap.size)] 75)) V3.heap.size [] := alloc2_first V3 _ _
      have hx4 : Boxed ((V3.alloc (.map #[] 0)).alloc (.cells #[.map (some V3.heap.size)] 75)) (V3.heap.size + 1) 75 (.map (some V3.heap.size)) := alloc2_second V3 _ _
      clear hdk hde hck hce hle
      gi_upto_region 15 with fail
      obtain ⟨nb, hnb⟩ : ∃ nb, V3.heap.size = nb := ⟨_, rfl⟩
      rw [hnb] at hb4 hs4 hm4 hx4 ⊢
      obtain ⟨V4, hV4⟩ : ∃ V4, (V3.alloc (.map #[] 0)).alloc (.cells #[.map (some nb)] 75) = V4 := ⟨_, rfl⟩
      rw [hV4] at hb4 hs4 hm4 hx4 ⊢
      have hMb4 := heap_below hb4 hMb3 (by have := hMb3.lt; omega)
      have hMb4' : MapAt V4 b L := hMb4
      have hrng := run_rangeS hT hMb4'
      have hr5 := rangeS_new hMb4'
      have hb5 : Below V4.heap.size V4 (V4.alloc (.mapIter (some b) L.length #[] L.length)) := (Below.refl _ _).alloc (Nat.le_refl _) _
      have hwbn : wb < nb := by obtain ⟨Wm, _, h3, _⟩ := HW3.out.2.1; have := h3.lt; omega
      have hbn : b < nb := by have := hMb3.lt; omega
      have hcbn : cb < nb := by have := heap_lt HCB3.out; omega
      have hdn5 : d + 5 ≤ nb := by have := heap_lt HW3.out.2.2.2.1; omega
      have hdc5 : d + 5 ≤ cb := by have := heap_lt HW.out.2.2.2.1; omega
      have HI5 := hid (show InW N H fv cv m g d wb w dd (fw H s0 k) b L cb nb (nb + 1) (nb + 2) cc (outK k) (fun _ => 0) [] (V4.alloc (.mapIter (some b) L.length #[] L.length)) from
        ⟨((HW3.out.below hg.symm (hnb ▸ hb4)).below hg.symm hb5), heap_below hb5 (heap_below hb4 HCB3.out hcbn) (by omega), ⟨[], heap_below hb5 hm4 (by omega), fun t => by simp [getS, findS]⟩, heap_below hb5 hx4 (by omega), by rw [hs4] at hr5; exact hr5⟩)
      have HKL5 := hid (HKL3.out.trans ((KeepsL.below (hnb ▸ hb4)).trans (KeepsL.below hb5)))
      have HKS5 := hid (HKS3.out.trans ((KeptS.below (hnb ▸ hb4)).trans (KeptS.below hb5)))
      rw [hs4] at hrng
      clear hV4 hb4 hm4 hx4 hMb4 hMb4' hr5 hb5 hMb3 hnb HW3 HKL3 HKS3 HCB3 hc7 hmm HDD HDN
      gi_wp2_with fail
      generalize V4.alloc (.mapIter (some b) L.length #[] L.length) = V5 at *
      clear hrng hs4
      gi_loopw [50] (fun _ X => ∃ vis out, InW N H fv cv m g d wb w dd (fw H s0 k) b L cb nb (nb + 1) (nb + 2) cc out (sumAt (partsL H (comK H s0 k) (fw H s0 k) (vis.map Prod.fst))) vis X ∧ (∀ o, o < m → out o = outK k o + outAdd H (fw H s0 k) (vis.map Prod.fst) o) ∧ KeepsL V X ∧ KeptS (fun k => SBr N (d + 5) (d + 5 + 2) k ∨ k = b) V X) (fun _ X => L.length - seenOf X (nb + 2))
      case atStart => exact ⟨[], outK k, HI5.out, fun o _ => by simp [outAdd], HKL5.out, HKS5.out⟩
      case round =>
        clear HI5 HKL5 HKS5
        obtain ⟨vis, out, hI, hout, hkl, hks⟩ := hrel
        rcases next_S hI.2.2.2.2 0 with ⟨hperm, hrun⟩ | ⟨p, V6, hpL, hr3, hgr, hsz3, hrun, hent⟩
        · have HPM := hid hperm
          have HI := hid hI
          have HND := hid (hI.2.2.2.2.nodup HLY.out.1)
          have HOUT := hid hout
          have HKL := hid hkl
          have HKS := hid hks
          have cx := hI.2.2.2.1.cell
          have cw : ∃ u, Boxed wr (d + 1 + 1) 75 u := by obtain ⟨Wm, h2, _⟩ := hI.1.2.1; exact ⟨_, h2⟩
          obtain ⟨u, cw⟩ := cw
          have cwc := cw.cell
          have cwf := cw.frozen
          have CW := hid cw
          have HMBX := hid hI.2.2.2.2.1
          clear hperm hI hout hkl hks cw
          gi_wp2_with fail
          have hin := fun s => (HPM.out.map Prod.fst).mem_iff (a := s)
          have hout1 : ∀ o, o < m → out o = outK (k + 1) o := fun o ho => by
            rw [HOUT.out o ho, houtK]
            exact out_layer H s0 hF0 k vis (HND.out) (fun s => (hin s).trans (HLY.out.2.1 s)) o
          obtain ⟨M, hM, hT'⟩ := HI.out.2.2.1
          have hTn : ∀ t, getS M t = ((fw H s0 (k + 1) t : Nat) : Int) := fun t => by
            rw [hT', ← HCE.out, HCE.out]
            exact congrArg (fun n : Nat => (n : Int)) (fw_step H s0 k _ (HND.out) (fun s hs => (hin s).2 ((HLY.out.2.1 s).2 hs)) t)
          have hWn := (HI.out.1.wts hg3 hN3 hM hTn).cong hout1
          refine ⟨HKL.out.setCell (i := 0) _ CW.out, HKS.out.setCell (i := 0) _ (by have := map_ne HMBX.out CW.out; unfold SBr; omega), ?_⟩
          show dnK H s0 (pre ++ [b]).length ≤ _ ∧ ∃ wb, WtK N H fv cv m g d wb w (dnK H s0 (pre ++ [b]).length) (fw H s0 (pre ++ [b]).length) (outK (pre ++ [b]).length) _
          rw [HK1.out]
          exact ⟨HDK.out, nb, HDE.out ▸ hWn⟩
        · obtain ⟨ps, pv⟩ := p
          have hfd := reach_fit H s0 hF0 k ps ((HLY.out.2.1 ps).1 (List.mem_map.2 ⟨_, hpL, rfl⟩))
          have hpv : pv = ((chN H ps : Nat) : Int) := HLY.out.2.2 _ hpL
          subst hpv
          have hI3 := hI.next hg3 hN3 (by omega) hgr hr3
          have hseen := hI.2.2.2.2.seen
          have hit : ∃ o, wr.heap[nb + 2]? = some o ∧ isBook o = false := by obtain ⟨_, seen, h, _⟩ := hI.2.2.2.2; exact ⟨_, h, rfl⟩
          obtain ⟨oit, hit1, hit2⟩ := hit
          have hkl3 := hkl.trans (KeepsL.grown hgr hit1 hit2)
          have hks3 := hks.trans (KeptS.grown hgr hit1 hit2 (by unfold SBr; omega))
          have hnd := hr3.nodup HLY.out.1
          have hvl := hr3.len
          have hst := store_first (P := Try.prog) V6 71 .nilIface (encS ps) rfl #[.int .i64 0] 3
          clear hit1 hit2 hI hkl hks hgr hsz3 hr3
          gi_upto_region 18 with fail
          have hb7 := below2 V6 (.cells #[encS ps] 71) (.cells #[.int .i64 ((chN H ps : Nat) : Int)] 3)
          have hx7 := alloc2_first V6 (.cells #[encS ps] 71) (.cells #[.int .i64 ((chN H ps : Nat) : Int)] 3)
          have hy7 : Boxed _ _ _ _ := alloc2_second V6 (.cells #[encS ps] 71) (.cells #[.int .i64 ((chN H ps : Nat) : Int)] 3)
          have hI7 := hI3.below hg.symm hb7
          have hkl7 := hkl3.trans (KeepsL.below hb7)
          have hks7 := hks3.trans (KeptS.below hb7)
          have hq5 : d + 5 ≤ V6.heap.size := by have := heap_lt hI3.1.2.2.2.1; omega
          have hqn : nb < V6.heap.size := by obtain ⟨M, hM, _⟩ := hI3.2.2.1; exact hM.lt
          clear hI3 hkl3 hks3 hb7
          obtain ⟨q, hq⟩ : ∃ q, V6.heap.size = q := ⟨_, rfl⟩
          rw [hq] at hx7 hy7 hq5 hqn ⊢
          obtain ⟨V7, hV7⟩ : ∃ V7, (V6.alloc (.cells #[encS ps] 71)).alloc (.cells #[.int .i64 ((chN H ps : Nat) : Int)] 3) = V7 := ⟨_, rfl⟩
          rw [hV7] at hx7 hy7 hI7 hkl7 hks7 ⊢
          clear hV7 hq hrun hent hst
          have hcq := hy7.cell
          by_cases h0 : chN H ps = 0
          · have hd0 : dep ps = 0 := Classical.byContradiction fun h => by have := hL0 k ps ((HLY.out.2.1 ps).1 (List.mem_map.2 ⟨_, hpL, rfl⟩)) h; omega
            obtain ⟨o, ho, hom⟩ : ∃ o : Nat, outN H ps = ((o : Nat) : Int) ∧ o < m := by
              have h := out_range H hV.hand.ok k ps (hs0 ▸ (HLY.out.2.1 ps).1 (List.mem_map.2 ⟨_, hpL, rfl⟩)) hd0
              rw [hmm'] at h
              exact ⟨(outN H ps).toNat, by omega, by omega⟩
            have hz : (((chN H ps : Nat) : Int) == 0) = true := by simp [h0]
            have HI7 := hid hI7
            have HX7 := hid hx7
            have HKL7 := hid hkl7
            have HKS7 := hid hks7
            have HOUT := hid hout
            have HND := hid hnd
            have HPL := hid hpL
            have HVL := hid hvl
            clear hI7 hx7 hkl7 hks7 hout hnd hpL hvl
            gi_upto_region 19 with fail
            have hS0 : Below V7.heap.size V7 V7.drew := ⟨rfl, rfl, rfl, Nat.le_refl _, fun _ _ => rfl⟩
            obtain ⟨Wm, hw1, hw2, hw3⟩ := HI7.out.1.2.1
            have hi1 := HI7.out.1.2.2.1
            have hi2 := HI7.out.1.2.2.2.1
            have hi3 := HI7.out.1.2.2.2.2.1
            have hx7' := HX7.out
            have hsm : out o + fw H s0 k ps ≤ 9000000000000000000 := by
              have h1 := HOUT.out o hom
              have hkd : ¬ dep s0 < k := by have := hfd.2; omega
              have h2 := outAdd_le H s0 hF0 hL0 k (vis.map Prod.fst) (List.Nodup.sublist (List.sublist_append_left _ _) (List.map_append ▸ HND.out)) o
              have h3 := fw_le H s0 hF0 hL0 k ps
              have h4 := dn_mono H s0 k 1
              have h5 := HDK.out
              have h6 : outK k o = 0 := by rw [houtK]; exact if_neg hkd
              omega
            refine regD_in (lets_round l) (fun X => Below V7.heap.size V7 X) (fun j => decide (j < 11)) (by kernel_rfl) (by kernel_rfl) ?_
            refine takeE (i := 0) (.slice (some ⟨d + 3, 0, none⟩) m m) (d := some 57) rfl (by kernel_rfl) (by kernel_rfl) (by kernel_rfl) (by kernel_rfl) (fun _ _ _ h => h) rfl (fun X hX => by exact exec_ldsl rfl rfl (heap_below hX hi2 (heap_lt hi2))) hS0 rfl ?_
            simp only [Act.put, List.setIfInBounds_toArray, List.set_cons_zero, List.set_cons_succ]
            refine takeE (i := 1) (encS ps) (d := some 58) rfl (by kernel_rfl) (by kernel_rfl) (by kernel_rfl) (by kernel_rfl) (fun _ _ _ h => h) rfl (fun X hX => by exact exec_ldstate rfl rfl (heap_below hX hx7' (heap_lt hx7'))) hS0 rfl ?_
            simp only [Act.put, List.setIfInBounds_toArray, List.set_cons_zero, List.set_cons_succ]
            refine takeE (i := 2) (.agg (handA H fv cv)) (d := some 59) rfl (by kernel_rfl) (by kernel_rfl) (by kernel_rfl) (by kernel_rfl) (fun _ _ _ h => h) rfl (fun X hX => by exact exec_ldhand rfl rfl (heap_below hX hi3 (heap_lt hi3))) hS0 rfl ?_
            simp only [Act.put, List.setIfInBounds_toArray, List.set_cons_zero, List.set_cons_succ]
            refine takeE (i := 6) (.map (some wb)) (d := some 63) rfl (by kernel_rfl) (by kernel_rfl) (by kernel_rfl) (by kernel_rfl) (fun _ _ _ h => h) rfl (fun X hX => by exact exec_ldlayer rfl rfl (heap_below hX hw1 (heap_lt hw1))) hS0 rfl ?_
            simp only [Act.put, List.setIfInBounds_toArray, List.set_cons_zero, List.set_cons_succ]
            refine takeE (i := 7) (encS ps) (d := some 64) rfl (by kernel_rfl) (by kernel_rfl) (by kernel_rfl) (by kernel_rfl) (fun _ _ _ h => h) rfl (fun X hX => by exact exec_ldstate rfl rfl (heap_below hX hx7' (heap_lt hx7'))) hS0 rfl ?_
            simp only [Act.put, List.setIfInBounds_toArray, List.set_cons_zero, List.set_cons_succ]
            refine takeE (i := 8) (.int .i64 ((fw H s0 k ps : Nat) : Int)) (d := some 65) rfl (by kernel_rfl) (by kernel_rfl) (by kernel_rfl) (by kernel_rfl) (fun _ _ _ h => h) rfl (fun X hX => by exact exec_getS hT rfl rfl rfl (hw2.below hX) (hw3 ps)) hS0 rfl ?_
            simp only [Act.put, List.setIfInBounds_toArray, List.set_cons_zero, List.set_cons_succ]
            refine stepD 3 (by kernel_rfl) rfl rfl (fun K hK => ?_)
            refine wp_enter (inv_out _ _ _ _ rfl rfl rfl _) ((outcome_c H fv cv ps hfd.1 _).mono ?_)
            rintro e X ⟨rfl, hbX⟩
            refine ⟨_, rfl, hK _ _ (fun _ => hS0.trans hbX) ?_⟩
            clear hK K
            have hS0 : Below V7.heap.size V7 X := hS0.trans hbX
            clear hbX
            rw [ho]
            simp only [Act.put, List.setIfInBounds_toArray, List.set_cons_zero, List.set_cons_succ]
            refine takeE (i := 4) (.pointer (some ⟨d + 3, o, none⟩)) (d := some 61) rfl (by kernel_rfl) (by kernel_rfl) (by kernel_rfl) (by kernel_rfl) (fun _ _ _ h => h) rfl (fun X hX => by exact exec_ix rfl rfl rfl hom) hS0 rfl ?_
            simp only [Act.put, List.setIfInBounds_toArray, List.set_cons_zero, List.set_cons_succ]
            refine takeE (i := 5) (.int .i64 ((out o : Nat) : Int)) (d := some 62) rfl (by kernel_rfl) (by kernel_rfl) (by kernel_rfl) (by kernel_rfl) (fun _ _ _ h => h) rfl (fun X hX => by exact exec_ldcell rfl rfl (cell_irow (heap_below hX hi1 (heap_lt hi1)) o hom)) hS0 rfl ?_
            simp only [Act.put, List.setIfInBounds_toArray, List.set_cons_zero, List.set_cons_succ]
            refine takeE (i := 9) (.int .i64 ((out o + fw H s0 k ps : Nat) : Int)) (d := some 66) rfl (by kernel_rfl) (by kernel_rfl) (by kernel_rfl) (by kernel_rfl) (fun _ _ _ h => h) rfl (fun X hX => by exact exec_addN rfl rfl rfl hsm) hS0 rfl ?_
            simp only [Act.put, List.setIfInBounds_toArray, List.set_cons_zero, List.set_cons_succ]
            refine takeE (i := 10) (.pointer (some ⟨d + 3, o, none⟩)) (d := some 67) rfl (by kernel_rfl) (by kernel_rfl) (by kernel_rfl) (by kernel_rfl) (fun _ _ _ h => h) rfl (fun X hX => by exact exec_ix rfl rfl rfl hom) hS0 rfl ?_
            simp only [Act.put, List.setIfInBounds_toArray, List.set_cons_zero, List.set_cons_succ]
            have hIX := HI7.out.below hg.symm hS0
            have hcx := cell_irow hIX.1.2.2.1 o hom
            have hfx := frozen_of_row _ _ o _ _ hIX.1.2.2.1
            refine stepD 11 (by kernel_rfl) rfl rfl (fun K hK => ?_)
            go_simp
            refine hK _ _ (fun h => by cases h) ?_
            clear hK K
            refine doneD (by kernel_rfl) ?_ _
            refine OnlyNorm.normal ?_
            have HIO := hid (hIX.outc hg3 hN3 hdc5 (by omega) o (out o + fw H s0 k ps))
            have HKLX := hid ((HKL7.out.trans (KeepsL.below hS0)).setCell (i := o) (.int .i64 ((out o + fw H s0 k ps : Nat) : Int)) hIX.1.2.2.1)
            have HKSX := hid ((HKS7.out.trans (KeptS.below hS0)).setCell (b := d + 3) (i := o) (.int .i64 ((out o + fw H s0 k ps : Nat) : Int)) (by have := map_ne hIX.2.2.2.2.1 hIX.1.2.2.1; unfold SBr; omega))
            have hca : ((out o + fw H s0 k ps : Nat) : Int) = ((out o : Nat) : Int) + ((fw H s0 k ps : Nat) : Int) := by simp
            rw [hca] at HIO HKLX HKSX
            have HREL := hid (show ∀ o', o' < m → upN out o (out o + fw H s0 k ps) o' = outK k o' + outAdd H (fw H s0 k) ((vis ++ [(ps, ((chN H ps : Nat) : Int))]).map Prod.fst) o' from fun o' ho' => by
              have h1 := HOUT.out o' ho'
              rw [List.map_append, show List.map Prod.fst [(ps, ((chN H ps : Nat) : Int))] = [ps] from rfl, out_snoc]
              unfold upN
              by_cases e : o' = o
              · subst e; rw [if_pos rfl, if_pos ⟨hd0, ho⟩]; omega
              · rw [if_neg e, if_neg (fun h => e (by have := h.2; omega))]; omega)
            have HPT := hid (show partsL H (comK H s0 k) (fw H s0 k) ((vis ++ [(ps, ((chN H ps : Nat) : Int))]).map Prod.fst) = partsL H (comK H s0 k) (fw H s0 k) (vis.map Prod.fst) from by
              rw [List.map_append, List.map_cons, List.map_nil, ← partW_all, dep_zero hfd.1 hd0, partW_nil])
            clear hcx hfx hIX hS0 hw1 hw2 hw3 hi1 hi2 hi3 hx7' hca hsm hcq
            gi_wp2_with fail
            go_roundw
            case rel => exact ⟨_, _, HPT.out ▸ HIO.out, HREL.out, HKLX.out, HKSX.out⟩
            case measure =>
              have h1 := HIO.out.2.2.2.2.seen
              rw [h1, hseen]
              have := HVL.out
              simp only [List.length_append, List.length_cons, List.length_nil] at this ⊢
              omega
          · have hz : (((chN H ps : Nat) : Int) == 0) = false := by simp [h0]
            have hcx := Boxed.cell (show Boxed V7 q 71 (encS ps) from hx7)
            have HX := hid hI7.1.2.2.2.2.1
            have HBR := hid (branches_c N H fv cv ps V7 hI7.1.2.2.2.2.2.2.2.1)
            have HI7 := hid hI7
            have HX7 := hid hx7
            have HY7 := hid hy7
            have HKL7 := hid hkl7
            have HKS7 := hid hks7
            have HOUT := hid hout
            have HND := hid hnd
            have HPL := hid hpL
            have HVL := hid hvl
            have hq7 : q + 1 < V7.heap.size := heap_lt hy7
            clear hI7 hx7 hkl7 hks7 hout hnd hpL hvl hy7
            gi_wp2_with (first
              | (refine wpListIn_value (lets_round l) rfl (by intro c hc; cases hc) (.agg (handA H fv cv)) (exec_ldhand rfl rfl HX.out) ?_)
              | (refine wpListIn_enter (lets_round l) rfl (by intro c hc; cases hc) (inv_br _ _ _ _ rfl rfl rfl _) ?_; refine HBR.out.mono ?_; rintro e W8 ⟨rfl, hb8, hsz8, hbr⟩; refine ⟨_, rfl, ?_⟩))
            obtain ⟨z, hz8⟩ : ∃ z, V7.heap.size = z := ⟨_, rfl⟩
            rw [hz8] at hsz8 hbr hq7 ⊢
            have hSB := br_seq (n - 1 - 1 - 1) (by omega) N z (z + 1) z (z + 2) ⟨by omega, by omega⟩ ⟨by omega, by omega⟩ H fv cv ps hfd.1 W8 hbr
            have HI8 := hid (HI7.out.below hg.symm hb8)
            have HX8 := hid (heap_below hb8 HX7.out (heap_lt HX7.out))
            have HY8 := hid (heap_below hb8 HY7.out (heap_lt HY7.out))
            have HKL8 := hid (HKL7.out.trans (KeepsL.below hb8))
            have HKS8 := hid (HKS7.out.trans (KeptS.below hb8))
            obtain ⟨r0, hr0⟩ := HR0.out
            have hl8 := HKL8.out.same l _ hr0 rfl
            have hzz : z ≤ W8.heap.size := by have := hb8.size; omega
            clear HI7 HX7 HY7 HKL7 HKS7 HX HBR hbr hb8
            gi_wp2_with fail
            apply rg_inA rfl hl8 (show 1 ≤ n - 1 - 1 by omega) (gf := brC ps) (lb := brL ps z (z + 1)) rfl trivial (brC_enters ps) (SeqG.inRound l hSB) (fun _ => rfl)
              (fun xs X => InW N H fv cv m g d wb w dd (fw H s0 k) b L cb nb (nb + 1) (nb + 2) cc out (sumAt (partW H (comK H s0 k) (fw H s0 k) (vis.map Prod.fst) ps xs)) (vis ++ [(ps, ((chN H ps : Nat) : Int))]) X ∧ X.heap[q]? = some (.cells #[encS ps] 71 (0, 0)) ∧ Boxed X (q + 1) 3 (.int .i64 ((chN H ps : Nat) : Int)) ∧ KeepsL W8 X ∧ KeptS (fun k => SBr N (d + 5) (d + 5 + 2) k ∨ k = b) W8 X) (fun _ _ _ => False)
              (fun xs => (InW.abd _ (Nat.le_of_eq hg.symm) (by omega)).and ((Abd.block _ _ _ rfl).and ((Abd.boxed _ _ _ _).and ((Abd.keepsL (Nat.le_refl _)).and (Abd.keptS _ (Nat.le_refl _)))))) (fun _ _ => Abd.pure _ _) (fun _ _ => Abd.pure _ _) ⟨by rw [partW_nil]; exact HI8.out, HX8.out, HY8.out, KeepsL.refl _, KeptS.refl _ _⟩
            case hassign =>
              intro l2 xs x X K hi ho hK
              simp only [brEnc]
              gi_wp2_with fail
              first | rfl | exact hK _ rfl
            case hbody =>
              rintro l2 xs x X hl2 hr2 ⟨hIX, hXX, hYX, hLX, hSX⟩ ⟨rest, hrest⟩
              have hS0 : (fun Y => InW N H fv cv m g d wb w dd (fw H s0 k) b L cb nb (nb + 1) (nb + 2) cc out (sumAt (partW H (comK H s0 k) (fw H s0 k) (vis.map Prod.fst) ps xs)) (vis ++ [(ps, ((chN H ps : Nat) : Int))]) Y ∧ Y.heap[q]? = some (.cells #[encS ps] 71 (0, 0)) ∧ Boxed Y (q + 1) 3 (.int .i64 ((chN H ps : Nat) : Int))) X.drew :=
                ⟨hIX.below hg.symm ⟨rfl, rfl, rfl, Nat.le_refl _, fun _ _ => rfl⟩, hXX, hYX⟩
              have hrest' : brs H ps = (xs ++ [x]) ++ rest := by rw [hrest]; simp
              have hpw := partW_le H s0 k (comK H s0 k) (vis.map Prod.fst) ps (by have := HND.out; rw [List.map_append] at this; exact this) (xs ++ [x]) rest hrest'
              have hft := fwd_total H s0 hF0 hL0 k
              have hdk := HDK.out
              rw [dn_succ] at hdk
              have hb1 : (((partW H (comK H s0 k) (fw H s0 k) (vis.map Prod.fst) ps (xs ++ [x])).map Prod.snd).sum) ≤ 1000000000000000 := by
                have := Nat.mul_le_mul_left (comK H s0 k) hft
                rw [Nat.mul_comm (dnK H s0 k)] at hdk
                omega
              have hsm := sumAt_le (partW H (comK H s0 k) (fw H s0 k) (vis.map Prod.fst) ps (xs ++ [x])) x.2
              rw [partW_snoc, sumAt_append, show sumAt [(x.2, fw H s0 k ps * (comK H s0 k / chN H ps) * x.1)] x.2 = fw H s0 k ps * (comK H s0 k / chN H ps) * x.1 by simp [sumAt]] at hsm
              rw [partW_snoc] at hb1
              have hbq : fw H s0 k ps * (comK H s0 k / chN H ps) ≤ 1000000000000000 := by
                have h1 := Nat.mul_le_mul (fw_le H s0 hF0 hL0 k ps) (Nat.div_le_self (comK H s0 k) (chN H ps))
                omega
              have hcc' : cc ≤ 1000000000000000 := by
                have h1 := Nat.mul_le_mul_right (comK H s0 k) (dn_pos H s0 k)
                have h2 := HCE.out
                omega
              have hce := HCE.out
              have HTT := hid (show ∀ t, (if t = x.2 then ((sumAt (partW H (comK H s0 k) (fw H s0 k) (vis.map Prod.fst) ps xs) x.2 + fw H s0 k ps * (cc / chN H ps) * x.1 : Nat) : Int) else ((sumAt (partW H (comK H s0 k) (fw H s0 k) (vis.map Prod.fst) ps xs) t : Nat) : Int)) = ((sumAt (partW H (comK H s0 k) (fw H s0 k) (vis.map Prod.fst) ps (xs ++ [x])) t : Nat) : Int) from fun t => by
                rw [partW_snoc, sumAt_append, hce]
                by_cases e : t = x.2
                · subst e; rw [if_pos rfl]; simp [sumAt]
                · rw [if_neg e]
                  have e' : ¬ x.2 = t := fun h => e h.symm
                  simp [sumAt, e'])
              rw [← hce] at hsm hbq
              have hsm' : sumAt (partW H (comK H s0 k) (fw H s0 k) (vis.map Prod.fst) ps xs) x.2 + fw H s0 k ps * (cc / chN H ps) * x.1 ≤ 9000000000000000000 := by
                rw [hce] at hsm ⊢
                omega
              have hsm2 : fw H s0 k ps * (cc / chN H ps) * x.1 ≤ 9000000000000000000 := by omega
              have hpos : 0 < chN H ps := by omega
              obtain ⟨tv, htv⟩ : ∃ tv, sumAt (partW H (comK H s0 k) (fw H s0 k) (vis.map Prod.fst) ps xs) x.2 = tv := ⟨_, rfl⟩
              obtain ⟨fp, hfp⟩ : ∃ fp, fw H s0 k ps = fp := ⟨_, rfl⟩
              obtain ⟨qv, hqv⟩ : ∃ qv, cc / chN H ps = qv := ⟨_, rfl⟩
              obtain ⟨p1, hp1⟩ : ∃ p1, fp * qv = p1 := ⟨_, rfl⟩
              obtain ⟨p2, hp2⟩ : ∃ p2, p1 * x.1 = p2 := ⟨_, rfl⟩
              obtain ⟨vv, hvv⟩ : ∃ vv, tv + p2 = vv := ⟨_, rfl⟩
              have hev : sumAt (partW H (comK H s0 k) (fw H s0 k) (vis.map Prod.fst) ps xs) x.2 + fw H s0 k ps * (cc / chN H ps) * x.1 = vv := by rw [htv, hfp, hqv, hp1, hp2, hvv]
              have e1 : fw H s0 k ps * (cc / chN H ps) = p1 := by rw [hfp, hqv, hp1]
              rw [hev] at HTT hsm'
              rw [e1] at hsm2 hbq
              rw [hp2] at hsm2
              have HFP := hid hfp
              have HTV := hid htv
              have HQV := hid hqv
              have HP1 := hid hp1
              have HP2 := hid hp2
              have HVV := hid hvv
              clear hsm hb1 hft hdk hpw hce hev e1 hfp htv hqv hp1 hp2 hvv
              gi_wp2_with fail
              refine regD_in (lets_round2 l l2) (fun Y => InW N H fv cv m g d wb w dd (fw H s0 k) b L cb nb (nb + 1) (nb + 2) cc out (sumAt (partW H (comK H s0 k) (fw H s0 k) (vis.map Prod.fst) ps xs)) (vis ++ [(ps, ((chN H ps : Nat) : Int))]) Y ∧ Y.heap[q]? = some (.cells #[encS ps] 71 (0, 0)) ∧ Boxed Y (q + 1) 3 (.int .i64 ((chN H ps : Nat) : Int))) (fun j => decide (j < 15)) (by kernel_rfl) (by kernel_rfl) ?_
              refine takeE (i := 0) (.map (some nb)) (d := some 73) rfl (by kernel_rfl) (by kernel_rfl) (by kernel_rfl) (by kernel_rfl) (fun _ _ _ h => h) rfl (fun Y hY => by exact exec_ldlayer rfl rfl hY.1.2.2.2.1) hS0 rfl ?_
              simp only [Act.put, List.setIfInBounds_toArray, List.set_cons_zero, List.set_cons_succ]
              refine takeE (i := 1) (encS x.2) (d := some 74) rfl (by kernel_rfl) (by kernel_rfl) (by kernel_rfl) (by kernel_rfl) (fun _ _ _ h => h) rfl (fun Y hY => by exact rfl) hS0 rfl ?_
              simp only [Act.put, List.setIfInBounds_toArray, List.set_cons_zero, List.set_cons_succ]
              refine takeE (i := 2) (.int .i64 ((tv : Nat) : Int)) (d := some 75) rfl (by kernel_rfl) (by kernel_rfl) (by kernel_rfl) (by kernel_rfl) (fun _ _ _ h => h) rfl (fun Y hY => by exact (by obtain ⟨M, hM, hTM⟩ := hY.1.2.2.1; exact exec_getS hT rfl rfl rfl hM ((hTM x.2).trans (by rw [HTV.out])))) hS0 rfl ?_
              simp only [Act.put, List.setIfInBounds_toArray, List.set_cons_zero, List.set_cons_succ]
              refine takeE (i := 3) (.map (some wb)) (d := some 76) rfl (by kernel_rfl) (by kernel_rfl) (by kernel_rfl) (by kernel_rfl) (fun _ _ _ h => h) rfl (fun Y hY => by exact (by obtain ⟨M, hM, _⟩ := hY.1.1.2.1; exact exec_ldlayer rfl rfl hM)) hS0 rfl ?_
              simp only [Act.put, List.setIfInBounds_toArray, List.set_cons_zero, List.set_cons_succ]
              refine takeE (i := 4) (encS ps) (d := some 77) rfl (by kernel_rfl) (by kernel_rfl) (by kernel_rfl) (by kernel_rfl) (fun _ _ _ h => h) rfl (fun Y hY => by exact exec_ldstate rfl rfl hY.2.1) hS0 rfl ?_
              simp only [Act.put, List.setIfInBounds_toArray, List.set_cons_zero, List.set_cons_succ]
              refine takeE (i := 5) (.int .i64 ((fp : Nat) : Int)) (d := some 78) rfl (by kernel_rfl) (by kernel_rfl) (by kernel_rfl) (by kernel_rfl) (fun _ _ _ h => h) rfl (fun Y hY => by exact (by obtain ⟨M, _, hM, hTM⟩ := hY.1.1.2.1; exact exec_getS hT rfl rfl rfl hM ((hTM ps).trans (by rw [HFP.out])))) hS0 rfl ?_
              simp only [Act.put, List.setIfInBounds_toArray, List.set_cons_zero, List.set_cons_succ]
              refine takeE (i := 6) (.int .i64 ((cc : Nat) : Int)) (d := some 79) rfl (by kernel_rfl) (by kernel_rfl) (by kernel_rfl) (by kernel_rfl) (fun _ _ _ h => h) rfl (fun Y hY => by exact exec_ldint rfl rfl hY.1.2.1) hS0 rfl ?_
              simp only [Act.put, List.setIfInBounds_toArray, List.set_cons_zero, List.set_cons_succ]
              refine takeE (i := 7) (.int .i64 ((chN H ps : Nat) : Int)) (d := some 80) rfl (by kernel_rfl) (by kernel_rfl) (by kernel_rfl) (by kernel_rfl) (fun _ _ _ h => h) rfl (fun Y hY => by exact exec_ldint rfl rfl hY.2.2) hS0 rfl ?_
              simp only [Act.put, List.setIfInBounds_toArray, List.set_cons_zero, List.set_cons_succ]
              refine takeE (i := 8) (.int .i64 ((qv : Nat) : Int)) (d := some 81) rfl (by kernel_rfl) (by kernel_rfl) (by kernel_rfl) (by kernel_rfl) (fun _ _ _ h => h) rfl (fun Y hY => by rw [← HQV.out]; exact exec_quoN rfl rfl rfl (by omega) hpos) hS0 rfl ?_
              simp only [Act.put, List.setIfInBounds_toArray, List.set_cons_zero, List.set_cons_succ]
              refine takeE (i := 9) (.int .i64 ((p1 : Nat) : Int)) (d := some 82) rfl (by kernel_rfl) (by kernel_rfl) (by kernel_rfl) (by kernel_rfl) (fun _ _ _ h => h) rfl (fun Y hY => by rw [← HP1.out]; exact exec_mulN rfl rfl rfl (by rw [HP1.out]; omega)) hS0 rfl ?_
              simp only [Act.put, List.setIfInBounds_toArray, List.set_cons_zero, List.set_cons_succ]
              refine takeE (i := 10) (.int .i64 ((x.1 : Nat) : Int)) (d := some 83) rfl (by kernel_rfl) (by kernel_rfl) (by kernel_rfl) (by kernel_rfl) (fun _ _ _ h => h) rfl (fun Y hY => by exact rfl) hS0 rfl ?_
              simp only [Act.put, List.setIfInBounds_toArray, List.set_cons_zero, List.set_cons_succ]
              refine takeE (i := 11) (.int .i64 ((p2 : Nat) : Int)) (d := some 84) rfl (by kernel_rfl) (by kernel_rfl) (by kernel_rfl) (by kernel_rfl) (fun _ _ _ h => h) rfl (fun Y hY => by rw [← HP2.out]; exact exec_mulN rfl rfl rfl (by rw [HP2.out]; exact hsm2)) hS0 rfl ?_
              simp only [Act.put, List.setIfInBounds_toArray, List.set_cons_zero, List.set_cons_succ]
              refine takeE (i := 12) (.int .i64 ((vv : Nat) : Int)) (d := some 85) rfl (by kernel_rfl) (by kernel_rfl) (by kernel_rfl) (by kernel_rfl) (fun _ _ _ h => h) rfl (fun Y hY => by rw [← HVV.out]; exact exec_addN rfl rfl rfl (by rw [HVV.out]; exact hsm')) hS0 rfl ?_
              simp only [Act.put, List.setIfInBounds_toArray, List.set_cons_zero, List.set_cons_succ]
              obtain ⟨M, hM, hTM⟩ := hS0.1.2.2.1
              have hbn' : b ≠ nb := by omega
              have hqnb : q ≠ nb := by omega
              have hMB := hS0.1.2.2.2.2.1
              have hen := run_entryS hT hM x.2
              have hS1 : InW N H fv cv m g d wb w dd (fw H s0 k) b L cb nb (nb + 1) (nb + 2) cc out (sumAt (partW H (comK H s0 k) (fw H s0 k) (vis.map Prod.fst) ps xs)) (vis ++ [(ps, ((chN H ps : Nat) : Int))]) (X.drew.putObj nb (mapO (touchS M x.2))) ∧ (X.drew.putObj nb (mapO (touchS M x.2))).heap[q]? = some (.cells #[encS ps] 71 (0, 0)) ∧ Boxed (X.drew.putObj nb (mapO (touchS M x.2))) (q + 1) 3 (.int .i64 ((chN H ps : Nat) : Int)) :=
                ⟨hS0.1.put hg3 hN3 hdn5 (by omega) hbn' (fun t => (getS_touch M x.2 t).trans (hTM t)), (World.putObj_heap_other hqnb).trans hS0.2.1, (World.putObj_heap_other (show q + 1 ≠ nb by omega)).trans hS0.2.2⟩
              refine stepD 13 (by kernel_rfl) rfl rfl (fun K hK => ?_)
              go_simp
              refine hK _ _ (fun _ => hS1) ?_
              clear hK K
              refine stepD 14 (by kernel_rfl) rfl rfl (fun K hK => ?_)
              go_simp
              refine hK _ _ (fun _ => hS1) ?_
              clear hK K hen
              have hMt : MapAt (X.drew.putObj nb (mapO (touchS M x.2))) nb (touchS M x.2) := hM.put
              have hes := run_entryStoreS (T := 75) hMt ((vv : Nat) : Int)
              have hI2 := hS1.1.put hg3 hN3 hdn5 (by omega) hbn' (M' := putS M x.2 ((vv : Nat) : Int)) (T' := sumAt (partW H (comK H s0 k) (fw H s0 k) (vis.map Prod.fst) ps (xs ++ [x]))) (fun t => by rw [getS_put, hTM]; exact HTT.out t)
              have h0L : KeepsL X X.drew := KeepsL.below ⟨rfl, rfl, rfl, Nat.le_refl _, fun _ _ => rfl⟩
              have h0S : ∀ S : Nat → Prop, KeptS S X X.drew := fun S => KeptS.below ⟨rfl, rfl, rfl, Nat.le_refl _, fun _ _ => rfl⟩
              have hLz := (h0L.put (mapO (touchS M x.2)) hM rfl).put (mapO (putS M x.2 ((vv : Nat) : Int))) hMt rfl
              have hSz := fun (S : Nat → Prop) (hS : ¬ S nb) => ((h0S S).put (mapO (touchS M x.2)) hM rfl hS).put (mapO (putS M x.2 ((vv : Nat) : Int))) hMt rfl hS
              have hXq := (World.putObj_heap_other (w := X.drew.putObj nb (mapO (touchS M x.2))) (o := mapO (putS M x.2 ((vv : Nat) : Int))) hqnb).trans hS1.2.1
              have hYq : Boxed _ _ _ _ := (World.putObj_heap_other (w := X.drew.putObj nb (mapO (touchS M x.2))) (o := mapO (putS M x.2 ((vv : Nat) : Int))) (show q + 1 ≠ nb by omega)).trans hS1.2.2
              obtain ⟨ZZ, hZZ⟩ : ∃ ZZ, (X.drew.putObj nb (mapO (touchS M x.2))).putObj nb (mapO (putS M x.2 ((vv : Nat) : Int))) = ZZ := ⟨_, rfl⟩
              rw [hZZ] at hes hI2 hLz hXq hYq
              simp only [hZZ] at hSz
              have HFIN := hid (show KeepsL X ZZ ∧ KeptS (SBr N z (z + 2)) X ZZ ∧ InW N H fv cv m g d wb w dd (fw H s0 k) b L cb nb (nb + 1) (nb + 2) cc out (sumAt (partW H (comK H s0 k) (fw H s0 k) (vis.map Prod.fst) ps (xs ++ [x]))) (vis ++ [(ps, ((chN H ps : Nat) : Int))]) ZZ ∧ ZZ.heap[q]? = some (.cells #[encS ps] 71 (0, 0)) ∧ Boxed ZZ (q + 1) 3 (.int .i64 ((chN H ps : Nat) : Int)) ∧ KeepsL W8 ZZ ∧ KeptS (fun k => SBr N (d + 5) (d + 5 + 2) k ∨ k = b) W8 ZZ from ⟨hLz, hSz _ (by unfold SBr; omega), hI2, hXq, hYq, hLX.trans hLz, hSX.trans (hSz _ (by unfold SBr; omega))⟩)
              clear hZZ
              clear hI2 h0L h0S hLz hSz hXq hYq hS0 hS1 hIX hXX hYX hLX hSX hTM hM hMt HTT
              refine stepD 15 (by kernel_rfl) rfl rfl (fun K hK => ?_)
              go_simp
              refine hK _ _ (fun h => by cases h) ?_
              clear hK K
              refine doneD (by kernel_rfl) ?_ _
              refine OnlyNorm.normal ?_
              exact HFIN.out
            case hdone =>
              rintro xs X rfl ⟨hIX, hXX, hYX, hLX, hSX⟩
              rw [partW_all] at hIX
              have HIX := hid hIX
              have HLX := hid (HKL8.out.trans hLX)
              have HSX := hid (HKS8.out.trans hSX)
              clear hIX hXX hYX hLX hSX
              have HREL := hid (show ∀ o', o' < m → out o' = outK k o' + outAdd H (fw H s0 k) ((vis ++ [(ps, ((chN H ps : Nat) : Int))]).map Prod.fst) o' from fun o' ho' => by
                have h1 := HOUT.out o' ho'
                have hdz : ¬ dep ps = 0 := fun h => by
                  have := dep_zero hfd.1 h
                  rw [chN_sum, this] at h0
                  exact h0 rfl
                rw [List.map_append, show List.map Prod.fst [(ps, ((chN H ps : Nat) : Int))] = [ps] from rfl, out_snoc, if_neg (fun h => hdz h.1)]
                omega)
              simp only [Act.put, List.setIfInBounds_toArray, List.set_cons_zero, List.set_cons_succ]
              gi_wp2_with fail
              go_roundw
              case rel => exact ⟨_, _, by rw [List.map_append]; exact HIX.out, HREL.out, HLX.out, HSX.out⟩
              case measure =>
                have h1 := HIX.out.2.2.2.2.seen
                rw [h1, hseen]
                have := HVL.out
                simp only [List.length_append, List.length_cons, List.length_nil] at this ⊢
                omega
            case hstop =>
              intro c xs X hx
              exact hx.elim
    · have hz1 : decide ((1000000000000000 : Int) < ((dd : Nat) : Int)) = true := decide_eq_true (by omega)
      have hz1' : (1000000000000000 : Int) < ((dd : Nat) : Int) := by omega
      have HNO := hid (show ¬ dnK H s0 (dep s0) ≤ 1000000000000000 from fun h => hle (by
        rw [← HDD.out]
        refine (satN_small _).2 ?_
        rcases Nat.lt_or_ge (dep s0) (k + 1) with hlt | hge
        · have := dn_end H s0 hF0 (k + 1 - dep s0)
          rw [show dep s0 + (k + 1 - dep s0) = k + 1 by omega] at this
          omega
        · have := dn_mono H s0 (k + 1) (dep s0 - (k + 1))
          rw [show k + 1 + (dep s0 - (k + 1)) = dep s0 by omega] at this
          omega))
      clear hle
      have hb1 := HW3.out.2.2.2.2.2.1
      have hb2 := HW3.out.2.2.2.2.2.2.1
      have c1 := hb1.cell
      have f1 := hb1.frozen
      have hs1 := hb1.set (.slice none 0 0)
      have hs2 : Boxed (V3.setCell ⟨g + 1, 0, none⟩ (.slice none 0 0)) (g + 1 + 1) 29 (.int .i64 0) := (heap_setCell_other V3 ⟨g + 1, 0, none⟩ (g + 1 + 1) _ (show g + 1 + 1 ≠ g + 1 by omega)).trans hb2
      have c2 := hs2.cell
      have f2 := hs2.frozen
      have HFIN := hid (show KeepsR l V ((V3.setCell ⟨g + 1, 0, none⟩ (.slice none 0 0)).setCell ⟨g + 1 + 1, 0, none⟩ (.int .i64 8)) ∧ Boxed ((V3.setCell ⟨g + 1, 0, none⟩ (.slice none 0 0)).setCell ⟨g + 1 + 1, 0, none⟩ (.int .i64 8)) (g + 1) 24 (.slice none 0 0) ∧ Boxed ((V3.setCell ⟨g + 1, 0, none⟩ (.slice none 0 0)).setCell ⟨g + 1 + 1, 0, none⟩ (.int .i64 8)) (g + 1 + 1) 29 (.int .i64 8) ∧ Below g w ((V3.setCell ⟨g + 1, 0, none⟩ (.slice none 0 0)).setCell ⟨g + 1 + 1, 0, none⟩ (.int .i64 8)) from
        ⟨(((HKL3.out.setCell (i := 0) _ hb1).setCell (i := 0) _ hs2)).r l, (heap_setCell_other _ ⟨g + 1 + 1, 0, none⟩ (g + 1) _ (show g + 1 ≠ g + 1 + 1 by omega)).trans hs1, hs2.set _,
          (HW3.out.2.2.2.2.2.2.2.2.setCell (p := ⟨g + 1, 0, none⟩) (show g ≤ g + 1 by omega) _).setCell (p := ⟨g + 1 + 1, 0, none⟩) (show g ≤ g + 1 + 1 by omega) _⟩)
      clear hb1 hb2 hs1 hs2 HW3 HKL3 HKS3 HCB3
      gi_wp2_with fail
      exact ⟨HFIN.out.1, rfl, HNO.out, HFIN.out.2.1, HFIN.out.2.2.1, HFIN.out.2.2.2⟩
  case hdone =>
    rintro D xs V hD hend ⟨hdn, wb, hW⟩ hmk
    have hed := end_dep H s0 hF0 hL0 xs.length hend
    have hde := dn_end H s0 hF0 (xs.length - dep s0)
    rw [show dep s0 + (xs.length - dep s0) = xs.length by omega] at hde
    rw [hde] at hdn
    have hW' : WtK N H fv cv m g d wb w (dnK H s0 xs.length) (fw H s0 xs.length) (rawW H s0) V := hW.cong fun o _ => by rw [houtK]; exact if_pos hed
    obtain ⟨raw, hraw⟩ : ∃ raw, rawW H s0 = raw := ⟨_, rfl⟩
    have hrl : ∀ i, raw i ≤ 1000000000000000 := fun i => hraw ▸ Nat.le_trans (raw_le H s0 hF0 hL0 i) hdn
    obtain ⟨ip, hip, hrp⟩ : ∃ i, i < m ∧ 0 < raw i := by have := raw_pos H hV.hand.ok (hs0 ▸ hL0); rw [hs0, hmm', hraw] at this; exact this
    have hgp := gcdW_pos raw m ip hip hrp
    have hgl : ∀ i, gcdW raw i ≤ 1000000000000000 := fun i => gcdW_le raw _ hrl i
    rw [hraw] at hW'
    obtain ⟨-, -, h1, h2, -, h3, h4, -, h5⟩ := hW'
    have HH := hid (show V.heap[d + 3]? = some (.cells (irow m (cst raw)) 3 (0, 0)) ∧ Boxed V (d + 3 + 1) 24 (.slice (some ⟨d + 3, 0, none⟩) m m) ∧ Boxed V (g + 1) 24 (.slice none 0 0) ∧ Boxed V (g + 1 + 1) 29 (.int .i64 0) ∧ Below g w V from ⟨h1, h2, h3, h4, h5⟩)
    have HRL := hid hrl
    have HGL := hid hgl
    have HMK := hid hmk
    have HDN := hid hdn
    have c2 := h2.cell
    clear hed hde hW hrl hgl hmk hdn h1 h2 h3 h4 h5 hrp
    gi_wp2_with fail
    gi_loopw [17, 91] (fun gv ix X => ∃ i : Nat, i ≤ m ∧ ix = .int .i64 i ∧ gv = .int .i64 ((gcdW raw i : Nat) : Int) ∧ Below V.heap.size V X) (fun _ ix _ => m - (intOf ix).toNat)
    case atStart => exact ⟨0, by omega, rfl, rfl, Below.refl _ _⟩
    case round =>
      obtain ⟨i, him, rfl, rfl, hbX⟩ := hrel
      have c2 := Boxed.cell (heap_below hbX HH.out.2.1 (heap_lt HH.out.2.1))
      rcases Nat.lt_or_ge i m with hlt | hge
      · have hz : decide (((i : Nat) : Int) < ((m : Nat) : Int)) = true := decide_eq_true (by omega)
        have c1 := cell_irow (heap_below hbX HH.out.1 (heap_lt HH.out.1)) i hlt
        have HDV := hid (fun W => divisor_c (gcdW raw i) (raw i) (by have := HGL.out i; omega) (by have := HRL.out i; omega) W)
        have HBX := hid hbX
        have hi64 : IntKind.i64.wrap (((i : Nat) : Int) + 1) = ((i + 1 : Nat) : Int) := (IntWalk.i64_in _ (by omega)).trans (by simp)
        clear hbX
        gi_wp2_with (gi_at_call 45; refine (callsIn_wide.2 (HDV.out _)).mono ?_; rintro e X1 ⟨rfl, dz, rfl⟩)
        go_roundw
        case rel => exact ⟨i + 1, hlt, rfl, rfl, below_drewN HBX.out dz⟩
        case measure => simp only [intOf, Int.toNat_natCast]; omega
      · have hz : decide (((i : Nat) : Int) < ((m : Nat) : Int)) = false := decide_eq_false (by omega)
        obtain rfl : m = i := by omega
        have b1 := heap_below hbX HH.out.1 (heap_lt HH.out.1)
        have b2 := heap_below hbX HH.out.2.1 (heap_lt HH.out.2.1)
        have b3 := heap_below hbX HH.out.2.2.1 (heap_lt HH.out.2.2.1)
        have b4 := heap_below hbX HH.out.2.2.2.1 (heap_lt HH.out.2.2.2.1)
        have b5 := heap_below hbX HMK.out (heap_lt HMK.out)
        have HR0 := hid (show wr.heap[d + 3]? = some (.cells (irow m (cst fun j => if j < 0 then raw j / gcdW raw m else raw j)) 3 (0, 0)) ∧ Boxed wr (d + 3 + 1) 24 (.slice (some ⟨d + 3, 0, none⟩) m m) ∧ Boxed wr (g + 1) 24 (.slice none 0 0) ∧ Boxed wr (g + 1 + 1) 29 (.int .i64 0) ∧ wr.heap[D]? = some (.deferred (some [])) ∧ Below g w wr from
          ⟨by rw [show irow m (cst fun j => if j < 0 then raw j / gcdW raw m else raw j) = irow m (cst raw) from irow_congr fun j _ => by simp [cst]]; exact b1, b2, b3, b4, b5, HH.out.2.2.2.2.trans (hbX.mono (by have := heap_lt HH.out.2.2.2.1; omega))⟩)
        have hgG := HGL.out m
        obtain ⟨G, hG⟩ : ∃ G, gcdW raw m = G := ⟨_, rfl⟩
        have HGD := hid (fun i hi => gcdW_dvd raw m i hi)
        rw [hG] at HR0 hgp hgG ⊢
        have HG := hid hG
        clear b1 b2 b3 b4 b5 hbX HH HMK HGL hG HGD
        gi_wp2_with fail
        gi_loopw [101] (fun ix X => ∃ i : Nat, i ≤ m ∧ ix = .int .i64 i ∧ X.heap[d + 3]? = some (.cells (irow m (cst fun j => if j < i then raw j / G else raw j)) 3 (0, 0)) ∧ Boxed X (d + 3 + 1) 24 (.slice (some ⟨d + 3, 0, none⟩) m m) ∧ Boxed X (g + 1) 24 (.slice none 0 0) ∧ Boxed X (g + 1 + 1) 29 (.int .i64 0) ∧ X.heap[D]? = some (.deferred (some [])) ∧ Below g w X) (fun ix _ => m - (intOf ix).toNat)
        case atStart => exact ⟨0, by omega, rfl, HR0.out⟩
        case round =>
          clear HR0
          obtain ⟨i, him, rfl, b1, b2, b3, b4, b5, b6⟩ := hrel
          have c2 := b2.cell
          rcases Nat.lt_or_ge i m with hlt | hge
          · have hz : decide (((i : Nat) : Int) < ((m : Nat) : Int)) = true := decide_eq_true (by omega)
            have c1 := cell_irow b1 i hlt
            have f1 := frozen_of_row _ _ i _ _ b1
            simp only [cst, Nat.lt_irrefl, if_false] at c1
            have hi64 : IntKind.i64.wrap (((i : Nat) : Int) + 1) = ((i + 1 : Nat) : Int) := (IntWalk.i64_in _ (by omega)).trans (by simp)
            obtain ⟨q, hq⟩ : ∃ q, raw i / G = q := ⟨_, rfl⟩
            have hqi : ((raw i : Nat) : Int) / ((G : Nat) : Int) = ((q : Nat) : Int) := by rw [← hq]; simp
            have hql : q ≤ raw i := hq ▸ Nat.div_le_self _ _
            have hrl := HRL.out i
            have hqw : IntKind.i64.wrap ((q : Nat) : Int) = ((q : Nat) : Int) := IntWalk.i64_in _ (by omega)
            have hG0 : ¬ G = 0 := by omega
            have HB := hid (show _ ∧ _ ∧ _ ∧ _ ∧ _ ∧ _ from ⟨b1, b2, b3, b4, b5, b6⟩)
            clear b1 b2 b3 b4 b5 b6
            gi_wp2_with fail
            go_roundw
            case rel =>
              obtain ⟨b1, b2, b3, b4, b5, b6⟩ := HB.out
              have key : ∀ (k : Nat) (o : Obj), wr.heap[k]? = some o → k ≠ d + 3 → (wr.setCell ⟨d + 3, i, none⟩ (.int .i64 ((q : Nat) : Int))).heap[k]? = some o := fun k o h hk => (heap_setCell_other wr ⟨d + 3, i, none⟩ k _ hk).trans h
              have b1' := set_irow b1 i ((q : Nat) : Int)
              rw [upd_cst] at b1'
              have hDd : D ≠ d + 3 := fun e => by subst e; rw [b1] at b5; cases b5
              refine ⟨i + 1, hlt, rfl, ?_, key _ _ b2 (by omega), key _ _ b3 (by omega), key _ _ b4 (by omega), key _ _ b5 hDd, b6.setCell (p := ⟨d + 3, i, none⟩) (show g ≤ d + 3 by omega) _⟩
              rw [show irow m (cst fun j => if j < i + 1 then raw j / G else raw j) = irow m (cst (upN (fun j => if j < i then raw j / G else raw j) i q)) from irow_congr fun j _ => by
                simp only [cst, upN]
                by_cases e : j = i
                · subst e; rw [if_pos rfl, if_pos (by omega), hq]
                · rw [if_neg e]
                  by_cases e2 : j < i
                  · rw [if_pos e2, if_pos (by omega)]
                  · rw [if_neg e2, if_neg (by omega)]]
              exact b1'
            case measure => simp only [intOf, Int.toNat_natCast]; omega
          · have hz : decide (((i : Nat) : Int) < ((m : Nat) : Int)) = false := decide_eq_false (by omega)
            obtain rfl : m = i := by omega
            have d1 := b3.cell
            have d2 := b3.frozen
            have d3 := b3.set (.slice (some ⟨d + 3, 0, none⟩) m m)
            have d4 : Boxed (wr.setCell ⟨g + 1, 0, none⟩ (.slice (some ⟨d + 3, 0, none⟩) m m)) (g + 1 + 1) 29 (.int .i64 0) := (heap_setCell_other wr ⟨g + 1, 0, none⟩ (g + 1 + 1) _ (show g + 1 + 1 ≠ g + 1 by omega)).trans b4
            have d5 := d4.cell
            have d6 := d4.frozen
            have hDg : D ≠ g + 1 := fun e => by subst e; rw [show wr.heap[g + 1]? = _ from b3] at b5; cases b5
            have hDg2 : D ≠ g + 1 + 1 := fun e => by subst e; rw [show wr.heap[g + 1 + 1]? = _ from b4] at b5; cases b5
            have key : ∀ (k : Nat) (o : Obj), wr.heap[k]? = some o → k ≠ g + 1 → k ≠ g + 1 + 1 → ((wr.setCell ⟨g + 1, 0, none⟩ (.slice (some ⟨d + 3, 0, none⟩) m m)).setCell ⟨g + 1 + 1, 0, none⟩ (.int .i64 0)).heap[k]? = some o := fun k o h hk hk2 =>
              (heap_setCell_other _ ⟨g + 1 + 1, 0, none⟩ k _ hk2).trans ((heap_setCell_other wr ⟨g + 1, 0, none⟩ k _ hk).trans h)
            obtain ⟨Z, hZ⟩ : ∃ Z, (wr.setCell ⟨g + 1, 0, none⟩ (.slice (some ⟨d + 3, 0, none⟩) m m)).setCell ⟨g + 1 + 1, 0, none⟩ (.int .i64 0) = Z := ⟨_, rfl⟩
            have HFIN := hid (show Boxed ((wr.setCell ⟨g + 1, 0, none⟩ (.slice (some ⟨d + 3, 0, none⟩) m m)).setCell ⟨g + 1 + 1, 0, none⟩ (.int .i64 0)) (g + 1) 24 (.slice (some ⟨d + 3, 0, none⟩) m m) ∧ Boxed ((wr.setCell ⟨g + 1, 0, none⟩ (.slice (some ⟨d + 3, 0, none⟩) m m)).setCell ⟨g + 1 + 1, 0, none⟩ (.int .i64 0)) (g + 1 + 1) 29 (.int .i64 0) ∧ Below g w ((wr.setCell ⟨g + 1, 0, none⟩ (.slice (some ⟨d + 3, 0, none⟩) m m)).setCell ⟨g + 1 + 1, 0, none⟩ (.int .i64 0)) from
              ⟨(heap_setCell_other _ ⟨g + 1 + 1, 0, none⟩ (g + 1) _ (show g + 1 ≠ g + 1 + 1 by omega)).trans d3, d4.set _, (b6.setCell (p := ⟨g + 1, 0, none⟩) (show g ≤ g + 1 by omega) _).setCell (p := ⟨g + 1 + 1, 0, none⟩) (show g ≤ g + 1 + 1 by omega) _⟩)
            have HK1 := hid (key _ _ b1 (by omega) (by omega))
            have HKD := hid (key _ _ b5 hDg hDg2)
            clear key b1 b2 b3 b4 b5 b6 d3 d4 hZ
            gi_wp2_with fail
            refine leaves_marks g [D] _ (by simp) (fun D' hD' => ?_) (fun W' hb' hc' => ?_)
            · obtain rfl : D' = D := by simpa using hD'
              exact ⟨HKD.out, by omega⟩
            · refine ⟨_, results_22 rfl rfl rfl (fun _ => rfl) (fun _ => rfl) (hc' _ _ HFIN.out.1 rfl) (hc' _ _ HFIN.out.2.1 rfl), by rw [hg]; exact HFIN.out.2.2.trans hb', .inl ⟨by rw [hs0]; exact HDN.out, d + 3, by rw [hg]; omega, by rw [hmm'], ?_⟩⟩
              rw [hs0, hmm', hraw, HG.out]
              have := hc' _ _ HK1.out rfl
              rw [show irow m (cst fun o => raw o / G) = irow m (cst fun j => if j < m then raw j / G else raw j) from irow_congr fun j hj => by simp [cst, hj]]
              exact this
  case hstop =>
    rintro D c pre V hD ⟨rfl, hno, h1, h2, hB⟩ hmk
    have HNO := hid hno
    have H1 := hid h1
    have H2 := hid h2
    have HB := hid hB
    have HM := hid hmk
    clear hno h1 h2 hB hmk
    gi_wp2_with fail
    refine leaves_marks g [D] _ (by simp) (fun D' hD' => ?_) (fun W' hb' hc' => ?_)
    · obtain rfl : D' = D := by simpa using hD'
      exact ⟨HM.out, by omega⟩
    · exact ⟨_, results_22 rfl rfl rfl (fun _ => rfl) (fun _ => rfl) (hc' _ _ H1.out rfl) (hc' _ _ H2.out rfl), by rw [hg]; exact HB.out.trans hb', .inr ⟨by rw [hs0]; exact HNO.out, rfl⟩⟩
end Go.Proofs.Ytmjnelkeiogdcaa
