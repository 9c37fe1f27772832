/- Walks of package hand: how many choices a state offers. -/
import Derived.Test.YtmjnelkeiogdcaaHF
namespace Go.Proofs.Ytmjnelkeiogdcaa
open Go Go.RowKit Go.Shelf
set_option maxRecDepth 100000

@[go_sem] theorem wideR_fn (l : Nat) (f : FuncId) : (Fence.wide.inRound l).fn f = True := eq_true trivial
@[go_sem] theorem wide_depth : Fence.wide.depth = none := rfl
@[go_sem] theorem wideRR_fn (l l2 : Nat) (f : FuncId) : ((Fence.wide.inRound l).inRound l2).fn f = True := eq_true trivial
theorem lets_round2 (l l2 : Nat) : Lets ((Fence.wide.inRound l).inRound l2) := ⟨fun _ => trivial, rfl, fun h => CallsIn.inRound l2 (CallsIn.inRound l (callsIn_wide.2 h)), fun h => show RowsIn Fence.wide _ _ _ _ _ _ from rows_wide h⟩
/-- A call by an interface, by its contract. -/
theorem wpListIn_enter {F : Fence} {m : Nat} {P : Program} {ops : Array Oper} (hF : Lets F) {rest : List Oper} {o : Oper} {Q : Exit → Act → World → Prop} {a : Act} {w : World} (hgd : o.guard = none) (hd : ∀ c, o.op ≠ .defer c) {f : FuncId} {args : Array Value} (hrun : (execOp a.eval o).run P w = .ok (.enter f args) w)
    (hK : Calls P f args w fun e w' => ∃ v, e = .returned v ∧ wpListIn F m P ops Q rest (a.put o.dst v) w') : wpListIn F m P ops Q (o :: rest) a w :=
  wpListIn_plain hgd fun K hK' => oper_in hF hd (fun _ _ h => h) (Q' := Q) (K := K) (by
    unfold Oper.wp
    rw [hrun]
    exact hK.mono fun e w' ⟨v, he, h⟩ => by subst he; exact hK' _ _ h)
/-- A hand is loaded. -/
theorem exec_ldhand {ev : Operand → Value} {o : Oper} {x : Operand} {g : Nat} {W : World} {H : HV} {fv cv : Value} (ho : o.op = .load 26 x) (hx : ev x = .pointer (some ⟨g, 0, none⟩)) (hg : W.heap[g]? = some (.cells (handA H fv cv) 26 (0, 0))) :
    (execOp ev o).run Try.prog W = .ok (.value (.agg (handA H fv cv))) W := by
  have h := run_loadVar_row (P := Try.prog) W g 26 26 (handA H fv cv) (0, 0) _ hg Try.underlying26 rfl (by kernel_rfl)
  simp only [execOp, ho, hx, Instr.loadAt, Instr.sureAddr, Sem.run_bind, Sem.run_pure, Result.andThen_ok, h]
/-- The marks of the ranges over functions, when the frame is left. -/
theorem leaves_marks {n : Nat} {fn : Func} {tmps : Array Value} {R : Ending → World → Prop} (g : Nat) : ∀ (Ds : List Nat) (W : World), Ds.Nodup → (∀ D ∈ Ds, W.heap[D]? = some (.deferred (some [])) ∧ g ≤ D) →
    (∀ W', Below g W W' → (∀ (b : Nat) (o : Obj), W.heap[b]? = some o → isBook o = false → W'.heap[b]? = some o) → ∃ v, (results fn tmps).run Try.prog W' = .ok v W' ∧ R (.returned v) W') →
    LeavesInM Fence.wide n Try.prog fn tmps R (Ds.map fun D => { target := .collected D, args := #[] }) .returning W
  | [], W, _, _, h => by
    obtain ⟨v, h1, h2⟩ := h W (Below.refl _ _) (fun _ _ h _ => h)
    exact ⟨v, h1, h2⟩
  | D :: Ds, W, hnd, hD, h => by
    obtain ⟨hd, hgD⟩ := hD D (List.mem_cons_self)
    refine ⟨by simp, .inl ⟨_, _, rfl, run_takeDeferred hd, ?_⟩⟩
    have hb : Below g W (W.putObj D (.deferred none)) := ⟨rfl, rfl, rfl, by simp, fun k hk => World.putObj_heap_other (by omega)⟩
    refine leaves_marks g Ds _ (List.nodup_cons.1 hnd).2 (fun D' hD' => ⟨?_, (hD D' (List.mem_cons_of_mem _ hD')).2⟩) (fun W' hbW hc => h W' (hb.trans hbW) fun b o hcell hcs => hc b o ?_ hcs)
    · refine (World.putObj_heap_other ?_).trans (hD D' (List.mem_cons_of_mem _ hD')).1
      rintro rfl
      exact (List.nodup_cons.1 hnd).1 hD'
    · refine (World.putObj_heap_other ?_).trans hcell
      rintro rfl
      rw [hd] at hcell
      cases hcell
      cases hcs
/-- .. what is kept by the taking of such marks. -/
theorem leaves_marksJ {n : Nat} {fn : Func} {tmps : Array Value} {R : Ending → World → Prop} (B : Nat) (p : World → Prop) (hp : ∀ W D, B ≤ D → p W → W.heap[D]? = some (.deferred (some [])) → p (W.putObj D (.deferred none))) : ∀ (Ds : List Nat) (W : World), Ds.Nodup → (∀ D ∈ Ds, W.heap[D]? = some (.deferred (some [])) ∧ B ≤ D) → p W →
    (∀ W', p W' → ∃ v, (results fn tmps).run Try.prog W' = .ok v W' ∧ R (.returned v) W') →
    LeavesInM Fence.wide n Try.prog fn tmps R (Ds.map fun D => { target := .collected D, args := #[] }) .returning W
  | [], W, _, _, h0, h => by
    obtain ⟨v, h1, h2⟩ := h W h0
    exact ⟨v, h1, h2⟩
  | D :: Ds, W, hnd, hD, h0, h => by
    obtain ⟨hd, hgD⟩ := hD D (List.mem_cons_self)
    refine ⟨by simp, .inl ⟨_, _, rfl, run_takeDeferred hd, ?_⟩⟩
    refine leaves_marksJ B p hp Ds _ (List.nodup_cons.1 hnd).2 (fun D' hD' => ⟨?_, (hD D' (List.mem_cons_of_mem _ hD')).2⟩) (hp W D hgD h0 hd) h
    refine (World.putObj_heap_other ?_).trans (hD D' (List.mem_cons_of_mem _ hD')).1
    rintro rfl
    exact (List.nodup_cons.1 hnd).1 hD'
theorem Abd.boxed (B b : Nat) (t : TypeId) (v : Value) : Abd B fun W => Boxed W b t v := Abd.block B b _ rfl
/-- A result that lies in a box of one cell. -/
theorem results_cell {P : Program} {fn : Func} {p : Tmp} {T : TypeId} (h : fn.results = #[.cell p T]) {tmps : Array Value} {W : World} {b : Nat} {v : Value} (hp : tmps.getD p undef = .pointer (some ⟨b, 0, none⟩)) (ha : ∀ w, (isAgg T).run P w = .ok false w)
    (hb : Boxed W b T v) : (results fn tmps).run P W = .ok v W := by
  have hp' : tmps[p]?.getD undef = .pointer (some ⟨b, 0, none⟩) := by simpa using hp
  have hc := hb.cell
  simp [results, h, hp', asAddr]
  go_simp
def chN (H : HV) (s : St) : Nat := ((brs H s).map Prod.fst).sum
def sumW (xs : List (Nat × St)) : Nat := (xs.map Prod.fst).sum
theorem sumW_append (xs : List (Nat × St)) (x : Nat × St) : sumW (xs ++ [x]) = sumW xs + x.1 := by simp [sumW]
theorem sumW_nxt {L pre : List (Nat × St)} {x : Nat × St} {w : World} (h : Nxt L pre x w) : sumW pre + x.1 ≤ sumW L := by
  obtain ⟨rest, rfl⟩ := h
  simp [sumW]
theorem sum_le (L : List Nat) (c : Nat) (h : ∀ x ∈ L, x ≤ c) : L.sum ≤ L.length * c := by
  induction L with
  | nil => simp
  | cons x L ih =>
    have h1 := h x (by simp)
    have h2 := ih fun y hy => h y (by simp [hy])
    simp only [List.sum_cons, List.length_cons, Nat.add_mul, Nat.one_mul]
    omega
theorem sum_ones {α : Type} (L : List α) : (L.map fun _ => 1).sum = L.length := by
  induction L with
  | nil => rfl
  | cons x L ih => simp [ih]; omega
theorem brs_small (H : HV) (s : St) (hF : Fit H s) : chN H s ≤ 20000 := by
  unfold chN
  cases s with
  | thrown l k =>
    obtain ⟨-, -, hm, hf⟩ := hF.1
    simp only [brs]
    split
    · simp
    · rw [List.map_map]
      refine Nat.le_trans (sum_le _ 1000 ?_) ?_
      · intro x hx
        obtain ⟨f, hf', rfl⟩ := List.mem_map.1 hx
        exact (hf f hf').2
      · rw [List.length_map]; omega
  | marked m =>
    obtain ⟨-, h1, h2⟩ := hF.1
    simp only [brs]
    split
    · rw [List.map_map]
      show ((List.range _).map fun _ => 1).sum ≤ _
      rw [sum_ones, List.length_range]; omega
    · simp
  | divided l k =>
    obtain ⟨-, h1, h2, h3⟩ := hF.1
    simp only [brs]
    split
    · simp
    · rw [List.map_map]
      show ((List.range _).map fun _ => 1).sum ≤ _
      rw [sum_ones, List.length_range]; omega
  | drawn l g k =>
    obtain ⟨-, -, -, hm, -⟩ := hF.1
    simp only [brs]
    split
    · simp
    · rw [List.map_map]
      show ((List.filter _ _).map fun _ => 1).sum ≤ _
      rw [sum_ones]
      have := List.length_filter_le (fun i => !g.testBit i) (List.range H.cards.length)
      rw [List.length_range] at this
      omega
  | cut k =>
    obtain ⟨-, -, hm, -⟩ := hF.1
    simp only [brs]
    split
    · simp
    · rw [List.map_map]
      show (H.cards.map fun _ => 1).sum ≤ _
      rw [sum_ones]; omega
theorem brC_enters (s : St) : ∀ args w, (callFunc (brC s) args).run Try.prog w = .ok (.enter (brC s) args) w := by
  cases s
  · exact enters_of Try.func96 (by kernel_rfl) rfl
  · exact enters_of Try.func99 (by kernel_rfl) rfl
  · exact enters_of Try.func102 (by kernel_rfl) rfl
  · exact enters_of Try.func106 (by kernel_rfl) rfl
  · exact enters_of Try.func109 (by kernel_rfl) rfl
attribute [local go_sem] Oper.semAt_some
set_option maxHeartbeats 1000000 in
theorem choices_in (n : Nat) (hn : 8 ≤ n) (N : Nat) (H : HV) (fv cv : Value) (s : St) (hF : Fit H s) (w : World) (hH : HandAt w N H fv cv) :
    CallsIn Fence.wide n Try.prog 63 #[.agg (handA H fv cv), encS s] w fun e w' => e = .returned (.int .i64 ((chN H s : Nat) : Int)) ∧ Below w.heap.size w w' := by
  have h1 : 1 ≤ n := by omega
  have hsm := brs_small H s hF
  have hNg := hH.le
  have hx := alloc2_first w (.cells (handA H fv cv) 26) (.cells #[.int .i64 0] 3)
  have hy := alloc2_second w (.cells (handA H fv cv) 26) (.cells #[.int .i64 0] 3)
  have hb := below2 w (.cells (handA H fv cv) 26) (.cells #[.int .i64 0] 3)
  have hs2 : ((w.alloc (.cells (handA H fv cv) 26)).alloc (.cells #[.int .i64 0] 3)).heap.size = w.heap.size + 2 := by simp
  refine callsIn_of_wp_marks Try.func63 rfl trivial ?_ rfl
  simp only [Try.ntmps63, List.size_toArray, List.length_cons, List.length_nil, Nat.reduceAdd, Nat.reduceSub, Array.replicate_succ, Array.replicate_zero, List.push_toArray, List.append_toArray, List.nil_append, List.cons_append]
  have hH2 : HandAt ((w.alloc (.cells (handA H fv cv) 26)).alloc (.cells #[.int .i64 0] 3)) N H fv cv := hH.below (hb.mono hH.le)
  have HX := hid hx
  have HY := hid hy
  have HB := hid hb
  have HBR := hid (branches_c N H fv cv s _ hH2)
  clear hx hy hb hH hH2
  gi_wp2_with (first
    | (refine wpListIn_value lets_wide rfl (by intro c hc; cases hc) (.agg (handA H fv cv)) (exec_ldhand rfl rfl HX.out) ?_)
    | (refine wpListIn_enter lets_wide rfl (by intro c hc; cases hc) (inv_br _ _ _ _ rfl rfl rfl _) ?_; refine HBR.out.mono ?_; rintro e W ⟨rfl, hb2, hsz2, hbr⟩; refine ⟨_, rfl, ?_⟩))
  have hbx := hb2.trans (Below.refl _ _)
  have HX := hid (heap_below hb2 HX.out (heap_lt HX.out))
  have HY := hid (heap_below hb2 HY.out (heap_lt HY.out))
  have HB := hid (HB.out.trans (hb2.mono (by rw [hs2]; omega)))
  rw [hs2] at hbr hsz2
  have hSQ := br_seq (n - 1) (by omega) N (w.heap.size + 2) (w.heap.size + 2 + 1) (w.heap.size + 2) (w.heap.size + 2 + 2) ⟨by omega, by omega⟩ ⟨by omega, by omega⟩ H fv cv s hF W hbr
  obtain ⟨g, hg⟩ : ∃ g, w.heap.size = g := ⟨_, rfl⟩
  rw [hg] at hNg HX HY HB hSQ hsz2 ⊢
  rw [hs2, hg]
  clear hb2 hbr HBR hbx hs2
  gi_wp2_with fail
  apply rg_outA rfl h1 (gf := brC s) (lb := brL s (g + 2) (g + 2 + 1)) rfl trivial (brC_enters s) hSQ (fun _ => rfl)
    (fun pre V => Boxed V (g + 1) 3 (.int .i64 ((sumW pre : Nat) : Int)) ∧ Below g w V) (fun _ _ _ => False) (fun pre => (Abd.boxed _ _ _ _).and (Abd.belowOf (by omega) (by omega))) (fun _ _ => Abd.pure _ _) (fun _ _ => Abd.pure _ _)
    ⟨HY.out, HB.out⟩
  case hassign =>
    intro l pre x V K hi ho hK
    simp only [brEnc]
    gi_wp2_with fail
    first | rfl | exact hK _ rfl
  case hbody =>
    rintro l pre x V hl hr ⟨hbx, hB⟩ hnx
    have hle := sumW_nxt hnx
    have hap := sumW_append pre x
    have hc := hbx.cell
    have hf := hbx.frozen
    obtain ⟨a1, ha1⟩ : ∃ a1, sumW pre = a1 := ⟨_, rfl⟩
    obtain ⟨wt, hwt⟩ : ∃ wt, x.1 = wt := ⟨_, rfl⟩
    obtain ⟨a2, ha2⟩ : ∃ a2, a1 + wt = a2 := ⟨_, rfl⟩
    unfold chN at hsm
    unfold sumW at hle
    rw [ha1, hwt, ha2] at hap
    rw [ha1] at hc
    have e1 : ((a1 : Nat) : Int) + ((wt : Nat) : Int) = ((a2 : Nat) : Int) := by omega
    have hw2 : a2 ≤ 20000 := by unfold sumW at ha1; omega
    have w1 := wrap_nat a2 (by omega)
    have HAP := hid hap
    have HBX := hid (show Boxed (V.setCell ⟨g + 1, 0, none⟩ (.int .i64 ((a2 : Nat) : Int))) (g + 1) 3 (.int .i64 ((a2 : Nat) : Int)) from hbx.set _)
    have HKL := hid ((KeepsL.refl V).setCell (i := 0) (.int .i64 ((a2 : Nat) : Int)) hbx)
    have HKS := hid ((KeptS.refl (SBr N (g + 2) (g + 2 + 2)) V).setCell (b := g + 1) (i := 0) (.int .i64 ((a2 : Nat) : Int)) (by unfold SBr; omega))
    have HB2 := hid (hB.setCell (p := ⟨g + 1, 0, none⟩) (show g ≤ g + 1 by omega) (.int .i64 ((a2 : Nat) : Int)))
    have hw : (brEnc x)[0]? = some (.int .i64 ((wt : Nat) : Int)) := by rw [← hwt]; rfl
    clear hle hap ha1 ha2 hbx hnx hB
    gi_wp2_with fail
    exact ⟨HKL.out, HKS.out, by rw [HAP.out]; exact HBX.out, HB2.out⟩
  case hdone =>
    rintro D xs V hD rfl ⟨hbx, hB⟩ hmk
    have hc := hbx.cell
    have hf := hbx.frozen
    have HBX := hid (hbx.set (.int .i64 ((sumW (brs H s) : Nat) : Int)))
    have HB2 := hid (hB.setCell (p := ⟨g + 1, 0, none⟩) (show g ≤ g + 1 by omega) (.int .i64 ((sumW (brs H s) : Nat) : Int)))
    have hne : g + 1 ≠ D := by omega
    clear hbx hB
    gi_wp2_with fail
    refine leaves_marks g [D] _ (by simp) (fun D' hD' => ?_) (fun W' hb' hc' => ?_)
    · obtain rfl : D' = D := by simpa using hD'
      exact ⟨(heap_setCell_other V ⟨g + 1, 0, none⟩ D' _ (show D' ≠ g + 1 by omega)).trans hmk, by omega⟩
    · exact ⟨_, results_cell Try.results63 rfl Try.isAgg3 (hc' _ _ HBX.out rfl), rfl, by rw [hg]; exact HB2.out.trans hb'⟩
  case hstop =>
    intro D c pre V hD hx
    exact hx.elim
end Go.Proofs.Ytmjnelkeiogdcaa
