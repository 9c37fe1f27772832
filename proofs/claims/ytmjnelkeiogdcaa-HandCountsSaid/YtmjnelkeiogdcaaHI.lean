/- Walks of package hand: how many choices a state offers. -/
import Derived.Test.YtmjnelkeiogdcaaHF
set_option linter.unusedSimpArgs false
set_option linter.unusedVariables false
namespace Go.Proofs.Ytmjnelkeiogdcaa
open Go Go.RowKit Go.Shelf
set_option maxRecDepth 100000

@[go_sem] theorem wideR_fn (l : Nat) (f : FuncId) : (Fence.wide.inRound l).fn f = True := eq_true trivial
@[go_sem] theorem wide_depth : Fence.wide.depth = none := rfl
@[go_sem] theorem wideRR_fn (l l2 : Nat) (f : FuncId) : ((Fence.wide.inRound l).inRound l2).fn f = True := eq_true trivial
theorem lets_round2 (l l2 : Nat) : Lets ((Fence.wide.inRound l).inRound l2) := ⟨fun _ => trivial, rfl, fun h => CallsIn.inRound l2 (CallsIn.inRound l (callsIn_wide.2 h)), fun h => show RowsIn Fence.wide _ _ _ _ _ _ from rows_wide h⟩
/-- A call by an interface, by its contract. -/
theorem wpListIn_enter {F : Fence} {m : Nat} {P : Program} {ops : Array Oper} (hF : Lets F) {rest : List Oper} {o : Oper} {Q : Exit → Act → World → Prop} {a : Act} {w : World} (hgd : o.guard = none) (hd : ∀ c, o.op ≠ .defer c) {f : FuncId} {args : Array Value} (hrun : (execOp a.eval o).run P w = .ok (.enter f args) w)
    (hK : Calls P f args w fun e w' => ∃ v, e = .returned v ∧ wpListIn F m P ops Q rest (a.put o.dst v) w') : wpListIn F m P ops Q (o :: rest) a w :=
  wpListIn_plain hgd fun K hK' => oper_in hF hd (fun _ _ h => h) (Q' := Q) (K := K) (by
    unfold Oper.wp
    rw [hrun]
    exact hK.mono fun e w' ⟨v, he, h⟩ => by subst he; exact hK' _ _ h)
/-- A hand is loaded. -/
theorem exec_ldhand {ev : Operand → Value} {o : Oper} {x : Operand} {g : Nat} {W : World} {H : HV} {fv cv : Value} (ho : o.op = .load 26 x) (hx : ev x = .pointer (some ⟨g, 0, none⟩)) (hg : W.heap[g]? = some (.cells (handA H fv cv) 26 (0, 0))) :
    (execOp ev o).run Try.prog W = .ok (.value (.agg (handA H fv cv))) W := by
  have h := run_loadVar_row (P := Try.prog) W g 26 26 (handA H fv cv) (0, 0) _ hg Try.underlying26 rfl (by kernel_rfl)
  simp only [execOp, ho, hx, Instr.loadAt, Instr.sureAddr, Sem.run_bind, Sem.run_pure, Result.andThen_ok, h]
/-- The marks of the ranges over functions, when the frame is left. -/
theorem leaves_marks {n : Nat} {fn : Func} {tmps : Array Value} {R : Ending → World → Prop} (g : Nat) : ∀ (Ds : List Nat) (W : World), Ds.Nodup → (∀ D ∈ Ds, W.heap[D]? = some (.deferred (some [])) ∧ g ≤ D) →
    (∀ W', Below g W W' → (∀ (b : Nat) (o : Obj), W.heap[b]? = some o → isBook o = false → W'.heap[b]? = some o) → ∃ v, (results fn tmps).run Try.prog W' = .ok v W' ∧ R (.returned v) W') →
    LeavesInM Fence.wide n Try.prog fn tmps R (Ds.map fun D => { target := .collected D, args := #[] }) .returning W
  | [], W, _, _, h => by
    obtain ⟨v, h1, h2⟩ := h W (Below.refl _ _) (fun _ _ h _ => h)
    exact ⟨v, h1, h2⟩
  | D :: Ds, W, hnd, hD, h => by
    obtain ⟨hd, hgD⟩ := hD D (List.mem_cons_self)
    refine ⟨by simp, .inl ⟨_, _, rfl, run_takeDeferred hd, ?_⟩⟩
    have hb : Below g W (W.putObj D (.deferred none)) := ⟨rfl, rfl, rfl, by simp, fun k hk => World.putObj_heap_other (by omega)⟩
    refine leaves_marks g Ds _ (List.nodup_cons.1 hnd).2 (fun D' hD' => ⟨?_, (hD D' (List.mem_cons_of_mem _ hD')).2⟩) (fun W' hbW hc => h W' (hb.trans hbW) fun b o hcell hcs => hc b o ?_ hcs)
    · refine (World.putObj_heap_other ?_).trans (hD D' (List.mem_cons_of_mem _ hD')).1
      rintro rfl
      exact (List.nodup_cons.1 hnd).1 hD'
    · refine (World.putObj_heap_other ?_).trans hcell
      rintro rfl
      rw [hd] at hcell
      cases hcell
      cases hcs
/-- .. what is kept by the taking of such marks. -/
theorem leaves_marksJ {n : Nat} {fn : Func} {tmps : Array Value} {R : Ending → World → Prop} (B : Nat) (p : World → Prop) (hp : ∀ W D, B ≤ D → p W → W.heap[D]? = some (.deferred (some [])) → p (W.putObj D (.deferred none))) : ∀ (Ds : List Nat) (W : World), Ds.Nodup → (∀ D ∈ Ds, W.heap[D]? = some (.deferred (some [])) ∧ B ≤ D) → p W →
    (∀ W', p W' → ∃ v, (results fn tmps).run Try.prog W' = .ok v W' ∧ R (.returned v) W') →
    LeavesInM Fence.wide n Try.prog fn tmps R (Ds.map fun D => { target := .collected D, args := #[] }) .returning W
  | [], W, _, _, h0, h => by
    obtain ⟨v, h1, h2⟩ := h W h0
    exact ⟨v, h1, h2⟩
  | D :: Ds, W, hnd, hD, h0, h => by
    obtain ⟨hd, hgD⟩ := hD D (List.mem_cons_self)
    refine ⟨by simp, .inl ⟨_, _, rfl, run_takeDeferred hd, ?_⟩⟩
    refine leaves_marksJ B p hp Ds _ (List.nodup_cons.1 hnd).2 (fun D' hD' => ⟨?_, (hD D' (List.mem_cons_of_mem _ hD')).2⟩) (hp W D hgD h0 hd) h
    refine (World.putObj_heap_other ?_).trans (hD D' (List.mem_cons_of_mem _ hD')).1
    rintro rfl
    exact (List.nodup_cons.1 hnd).1 hD'
theorem Abd.boxed (B b : Nat) (t : TypeId) (v : Value) : Abd B fun W => Boxed W b t v := Abd.block B b _ rfl
/-- A result that lies in a box of one cell. -/
theorem results_cell {P : Program} {fn : Func} {p : Tmp} {T : TypeId} (h : fn.results = #[.cell p T]) {tmps : Array Value} {W : World} {b : Nat} {v : Value} (hp : tmps.getD p undef = .pointer (some ⟨b, 0, none⟩)) (ha : ∀ w, (isAgg T).run P w = .ok false w)
    (hb : Boxed W b T v) : (results fn tmps).run P W = .ok v W := by
  have hp' : tmps[p]?.getD undef = .pointer (some ⟨b, 0, none⟩) := by simpa using hp
  have hc := hb.cell
  simp [results, h, hp', asAddr]
  go_simp
def chN (H : HV) (s : St) : Nat := ((brs H s).map Prod.fst).sum
def sumW (xs : List (Nat × St)) : Nat := (xs.map Prod.fst).sum
theorem sumW_append (xs : List (Nat × St)) (x : Nat × St) : sumW (xs ++ [x]) = sumW xs + x.1 := by simp [sumW]
theorem sumW_nxt {L pre : List (Nat × St)} {x : Nat × St} {w : World} (h : Nxt L pre x w) : sumW pre + x.1 ≤ sumW L := by
  obtain ⟨rest, rfl⟩ := h
  simp [sumW]
theorem sum_le (L : List Nat) (c : Nat) (h : ∀ x ∈ L, x ≤ c) : L.sum ≤ L.length * c := by
  induction L with
  | nil => simp
  | cons x L ih =>
    have h1 := h x (by simp)
    have h2 := ih fun y hy => h y (by simp [hy])
    simp only [List.sum_cons, List.length_cons, Nat.add_mul, Nat.one_mul]
    omega
theorem sum_ones {α : Type} (L : List α) : (L.map fun _ => 1).sum = L.length := by
  induction L with
  | nil => rfl
  | cons x L ih => simp [ih]; omega
theorem brs_small (H : HV) (s : St) (hF : Fit H s) : chN H s ≤ 20000 := by
  unfold chN
  cases s with
  | thrown l k =>
    obtain ⟨-, -, hm, hf⟩ := hF.1
    simp only [brs]
    split
    · simp
    · rw [List.map_map]
      refine Nat.le_trans (sum_le _ 1000 ?_) ?_
      · intro x hx
        obtain ⟨f, hf', rfl⟩ := List.mem_map.1 hx
        exact (hf f hf').2
      · rw [List.length_map]; omega
  | marked m =>
    obtain ⟨-, h1, h2⟩ := hF.1
    simp only [brs]
    split
    · rw [List.map_map]
      show ((List.range _).map fun _ => 1).sum ≤ _
      rw [sum_ones, List.length_range]; omega
    · simp
  | divided l k =>
    obtain ⟨-, h1, h2, h3⟩ := hF.1
    simp only [brs]
    split
    · simp
    · rw [List.map_map]
      show ((List.range _).map fun _ => 1).sum ≤ _
      rw [sum_ones, List.length_range]; omega
  | drawn l g k =>
    obtain ⟨-, -, -, hm, -⟩ := hF.1
    simp only [brs]
    split
    · simp
    · rw [List.map_map]
      show ((List.filter _ _).map fun _ => 1).sum ≤ _
      rw [sum_ones]
      have := List.length_filter_le (fun i => !g.testBit i) (List.range H.cards.length)
      rw [List.length_range] at this
      omega
  | cut k =>
    obtain ⟨-, -, hm, -⟩ := hF.1
    simp only [brs]
    split
    · simp
    · rw [List.map_map]
      show (H.cards.map fun _ => 1).sum ≤ _
      rw [sum_ones]; omega
theorem brC_enters (s : St) : ∀ args w, (callFunc (brC s) args).run Try.prog w = .ok (.enter (brC s) args) w := by
  cases s
  · exact enters_of Try.func96 (by kernel_rfl) rfl
  · exact enters_of Try.func99 (by kernel_rfl) rfl
  · exact enters_of Try.func102 (by kernel_rfl) rfl
  · exact enters_of Try.func106 (by kernel_rfl) rfl
  · exact enters_of Try.func109 (by kernel_rfl) rfl
attribute [local go_sem] Oper.semAt_some
set_option maxHeartbeats 1000000 in
theorem choices_in (n : Nat) (hn : 8 ≤ n) (N : Nat) (H : HV) (fv cv : Value) (s : St) (hF : Fit H s) (w : World) (hH : HandAt w N H fv cv) :
    CallsIn Fence.wide n Try.prog 63 #[.agg (handA H fv cv), encS s] w fun e w' => e = .returned (.int .i64 ((chN H s : Nat) : Int)) ∧ Below w.heap.size w w' := by
  have h1 : 1 ≤ n := by omega
  have hsm := brs_small H s hF
  have hNg := hH.le
  have hx := alloc2_first w (.cells (handA H fv cv) 26) (.cells #[.int .i64 0] 3)
  have hy := alloc2_second w (.cells (handA H fv cv) 26) (.cells #[.int .i64 0] 3)
  have hb := below2 w (.cells (handA H fv cv) 26) (.cells #[.int .i64 0] 3)
  have hs2 : ((w.alloc (.cells (handA H fv cv) 26)).alloc (.cells #[.int .i64 0] 3)).heap.size = w.heap.size + 2 := by simp
  refine callsIn_of_wp_marks Try.func63 rfl trivial ?_ rfl
  simp only [Try.ntmps63, List.size_toArray, List.length_cons, List.length_nil, Nat.reduceAdd, Nat.reduceSub, Array.replicate_succ, Array.replicate_zero, List.push_toArray, List.append_toArray, List.nil_append, List.cons_append]
  have hH2 : HandAt ((w.alloc (.cells (handA H fv cv) 26)).alloc (.cells #[.int .i64 0] 3)) N H fv cv := hH.below (hb.mono hH.le)
  have HX := hid hx
  have HY := hid hy
  have HB := hid hb
  have HBR := hid (branches_c N H fv cv s _ hH2)
  clear hx hy hb hH hH2
  gi_wp2_with (first
    | (refine wpListIn_value lets_wide rfl (by intro c hc; cases hc) (.agg (handA H fv cv)) (exec_ldhand rfl rfl HX.out) ?_)
    | (refine wpListIn_enter lets_wide rfl (by intro c hc; cases hc) (inv_br _ _ _ _ rfl rfl rfl _) ?_; refine HBR.out.mono ?_; rintro e W ⟨rfl, hb2, hsz2, hbr⟩; refine ⟨_, rfl, ?_⟩))
  have hbx := hb2.trans (Below.refl _ _)
  have HX := hid (heap_below hb2 HX.out (heap_lt HX.out))
  have HY := hid (heap_below hb2 HY.out (heap_lt HY.out))
  have HB := hid (HB.out.trans (hb2.mono (by rw [hs2]; omega)))
  rw [hs2] at hbr hsz2
  have hSQ := br_seq (n - 1) (by omega) N (w.heap.size + 2) (w.heap.size + 2 + 1) (w.heap.size + 2) (w.heap.size + 2 + 2) ⟨by omega, by omega⟩ ⟨by omega, by omega⟩ H fv cv s hF W hbr
  obtain ⟨g, hg⟩ : ∃ g, w.heap.size = g := ⟨_, rfl⟩
  rw [hg] at hNg HX HY HB hSQ hsz2 ⊢
  rw [hs2, hg]
  clear hb2 hbr HBR hbx hs2
  gi_wp2_with fail
  apply rg_outA rfl h1 (gf := brC s) (lb := brL s (g + 2) (g + 2 + 1)) rfl trivial (brC_enters s) hSQ (fun _ => rfl)
    (fun pre V => Boxed V (g + 1) 3 (.int .i64 ((sumW pre : Nat) : Int)) ∧ Below g w V) (fun _ _ _ => False) (fun pre => (Abd.boxed _ _ _ _).and (Abd.belowOf (by omega) (by omega))) (fun _ _ => Abd.pure _ _) (fun _ _ => Abd.pure _ _)
    ⟨HY.out, HB.out⟩
  case hassign =>
    intro l pre x V K hi ho hK
    simp only [brEnc]
    gi_wp2_with fail
    first | rfl | exact hK _ rfl
  case hbody =>
    rintro l pre x V hl hr ⟨hbx, hB⟩ hnx
    have hle := sumW_nxt hnx
    have hap := sumW_append pre x
    have hc := hbx.cell
    have hf := hbx.frozen
    obtain ⟨a1, ha1⟩ : ∃ a1, sumW pre = a1 := ⟨_, rfl⟩
    obtain ⟨wt, hwt⟩ : ∃ wt, x.1 = wt := ⟨_, rfl⟩
    obtain ⟨a2, ha2⟩ : ∃ a2, a1 + wt = a2 := ⟨_, rfl⟩
    unfold chN at hsm
    unfold sumW at hle
    rw [ha1, hwt, ha2] at hap
    rw [ha1] at hc
    have e1 : ((a1 : Nat) : Int) + ((wt : Nat) : Int) = ((a2 : Nat) : Int) := by omega
    have hw2 : a2 ≤ 20000 := by unfold sumW at ha1; omega
    have w1 := wrap_nat a2 (by omega)
    have HAP := hid hap
    have HBX := hid (show Boxed (V.setCell ⟨g + 1, 0, none⟩ (.int .i64 ((a2 : Nat) : Int))) (g + 1) 3 (.int .i64 ((a2 : Nat) : Int)) from hbx.set _)
    have HKL := hid ((KeepsL.refl V).setCell (i := 0) (.int .i64 ((a2 : Nat) : Int)) hbx)
    have HKS := hid ((KeptS.refl (SBr N (g + 2) (g + 2 + 2)) V).setCell (b := g + 1) (i := 0) (.int .i64 ((a2 : Nat) : Int)) (by unfold SBr; omega))
    have HB2 := hid (hB.setCell (p := ⟨g + 1, 0, none⟩) (show g ≤ g + 1 by omega) (.int .i64 ((a2 : Nat) : Int)))
    have hw : (brEnc x)[0]? = some (.int .i64 ((wt : Nat) : Int)) := by rw [← hwt]; rfl
    clear hle hap ha1 ha2 hbx hnx hB
    gi_wp2_with fail
    exact ⟨HKL.out, HKS.out, by rw [HAP.out]; exact HBX.out, HB2.out⟩
  case hdone =>
    rintro D xs V hD rfl ⟨hbx, hB⟩ hmk
    have hc := hbx.cell
    have hf := hbx.frozen
    have HBX := hid (hbx.set (.int .i64 ((sumW (brs H s) : Nat) : Int)))
    have HB2 := hid (hB.setCell (p := ⟨g + 1, 0, none⟩) (show g ≤ g + 1 by omega) (.int .i64 ((sumW (brs H s) : Nat) : Int)))
    have hne : g + 1 ≠ D := by omega
    clear hbx hB
    gi_wp2_with fail
    refine leaves_marks g [D] _ (by simp) (fun D' hD' => ?_) (fun W' hb' hc' => ?_)
    · obtain rfl : D' = D := by simpa using hD'
      exact ⟨(heap_setCell_other V ⟨g + 1, 0, none⟩ D' _ (show D' ≠ g + 1 by omega)).trans hmk, by omega⟩
    · exact ⟨_, results_cell Try.results63 rfl Try.isAgg3 (hc' _ _ HBX.out rfl), rfl, by rw [hg]; exact HB2.out.trans hb'⟩
  case hstop =>
    intro D c pre V hD hx
    exact hx.elim
end Go.Proofs.Ytmjnelkeiogdcaa
/- Walks of package hand: a choice is made. -/
namespace Go.Proofs.Ytmjnelkeiogdcaa
open Go Go.RowKit Go.Shelf
set_option maxRecDepth 100000

/-- A state is stored into a box. -/
theorem storeS {P : Program} {V : World} {b : Nat} {t : TypeId} {u : Value} (h : Boxed V b t u) (s : St) : (storeCells ⟨b, 0, none⟩ [encS s]).run P V = .ok () (V.setCell ⟨b, 0, none⟩ (encS s)) := by
  have hc := h.cell
  have hf := h.frozen
  have h1 := run_store P V ⟨b, 0, none⟩ (encS s) .plain rfl
  rw [hc] at h1
  simp only [hf, Bool.false_eq_true, if_false] at h1
  simp only [storeCells, Sem.run_bind]
  rw [show (⟨b, 0, none⟩ : Addr).add 0 = ⟨b, 0, none⟩ from rfl, h1]
  rfl
/-- The state to which a choice leads. -/
def pick : List (Nat × St) → Nat → Option St
  | [], _ => none
  | x :: L, c => if c < x.1 then some x.2 else pick L (c - x.1)
def encO : Option St → Value
  | some t => encS t
  | none => .nilIface
theorem pick_append (L M : List (Nat × St)) (c : Nat) (h : sumW L ≤ c) : pick (L ++ M) c = pick M (c - sumW L) := by
  induction L generalizing c with
  | nil => simp [sumW]
  | cons x L ih =>
    have hs : sumW (x :: L) = x.1 + sumW L := by simp [sumW]
    rw [hs] at h ⊢
    simp only [List.cons_append, pick]
    rw [if_neg (by omega), ih _ (by omega)]
    congr 1
    omega
theorem alloc3_0 (W : World) (o1 o2 o3 : Obj) : (((W.alloc o1).alloc o2).alloc o3).heap[W.heap.size]? = some o1 := (Below.heap_alloc _ o3 _ (by simp; omega)).trans (alloc2_first W o1 o2)
theorem alloc3_1 (W : World) (o1 o2 o3 : Obj) : (((W.alloc o1).alloc o2).alloc o3).heap[W.heap.size + 1]? = some o2 := (Below.heap_alloc _ o3 _ (by simp)).trans (alloc2_second W o1 o2)
theorem alloc3_2 (W : World) (o1 o2 o3 : Obj) : (((W.alloc o1).alloc o2).alloc o3).heap[W.heap.size + 1 + 1]? = some o3 := by
  have := World.alloc_heap_new ((W.alloc o1).alloc o2) o3
  rwa [World.size_alloc, World.size_alloc] at this
theorem below3 (W : World) (o1 o2 o3 : Obj) : Below W.heap.size W (((W.alloc o1).alloc o2).alloc o3) := (below2 W o1 o2).alloc (by simp; omega) _
attribute [local go_sem] Oper.semAt_some
set_option maxHeartbeats 1000000 in
theorem choose_in (n : Nat) (hn : 8 ≤ n) (N : Nat) (H : HV) (fv cv : Value) (s : St) (hF : Fit H s) (c : Nat) (hc63 : c ≤ 9223372036854775807) (w : World) (hH : HandAt w N H fv cv) :
    CallsIn Fence.wide n Try.prog 70 #[.agg (handA H fv cv), encS s, .int .i64 ((c : Nat) : Int)] w fun e w' => e = .returned (encO (pick (brs H s) c)) ∧ Below w.heap.size w w' := by
  have h1 : 1 ≤ n := by omega
  have hNg := hH.le
  have hx := alloc3_0 w (.cells (handA H fv cv) 26) (.cells #[.int .i64 ((c : Nat) : Int)] 3) (.cells #[.nilIface] 71)
  have hy := alloc3_1 w (.cells (handA H fv cv) 26) (.cells #[.int .i64 ((c : Nat) : Int)] 3) (.cells #[.nilIface] 71)
  have hz := alloc3_2 w (.cells (handA H fv cv) 26) (.cells #[.int .i64 ((c : Nat) : Int)] 3) (.cells #[.nilIface] 71)
  have hb := below3 w (.cells (handA H fv cv) 26) (.cells #[.int .i64 ((c : Nat) : Int)] 3) (.cells #[.nilIface] 71)
  have hs2 : (((w.alloc (.cells (handA H fv cv) 26)).alloc (.cells #[.int .i64 ((c : Nat) : Int)] 3)).alloc (.cells #[.nilIface] 71)).heap.size = w.heap.size + 3 := by simp
  have hH2 : HandAt (((w.alloc (.cells (handA H fv cv) 26)).alloc (.cells #[.int .i64 ((c : Nat) : Int)] 3)).alloc (.cells #[.nilIface] 71)) N H fv cv := hH.below (hb.mono hH.le)
  have HX := hid hx
  have HY := hid hy
  have HZ := hid hz
  have HB := hid hb
  have HBR := hid (branches_c N H fv cv s _ hH2)
  have hc0 : decide (((c : Nat) : Int) < 0) = false := by simp
  refine callsIn_of_wp_marks Try.func70 rfl trivial ?_ rfl
  simp only [Try.ntmps70, List.size_toArray, List.length_cons, List.length_nil, Nat.reduceAdd, Nat.reduceSub, Array.replicate_succ, Array.replicate_zero, List.push_toArray, List.append_toArray, List.nil_append, List.cons_append]
  clear hx hy hz hb hH hH2
  gi_wp2_with (first
    | (refine wpListIn_value lets_wide rfl (by intro c hc; cases hc) (.agg (handA H fv cv)) (exec_ldhand rfl rfl HX.out) ?_)
    | (refine wpListIn_enter lets_wide rfl (by intro c hc; cases hc) (inv_br _ _ _ _ rfl rfl rfl _) ?_; refine HBR.out.mono ?_; rintro e W ⟨rfl, hb2, hsz2, hbr⟩; refine ⟨_, rfl, ?_⟩))
  have HX := hid (heap_below hb2 HX.out (heap_lt HX.out))
  have HY := hid (heap_below hb2 HY.out (heap_lt HY.out))
  have HZ := hid (heap_below hb2 HZ.out (heap_lt HZ.out))
  have HB := hid (HB.out.trans (hb2.mono (by rw [hs2]; omega)))
  rw [hs2] at hbr hsz2
  have hSQ := br_seq (n - 1) (by omega) N (w.heap.size + 3) (w.heap.size + 3 + 1) (w.heap.size + 3) (w.heap.size + 3 + 2) ⟨by omega, by omega⟩ ⟨by omega, by omega⟩ H fv cv s hF W hbr
  obtain ⟨g, hg⟩ : ∃ g, w.heap.size = g := ⟨_, rfl⟩
  rw [hg] at hNg HX HY HZ HB hSQ hsz2 ⊢
  rw [hs2, hg]
  clear hb2 hbr HBR hs2
  gi_wp2_with fail
  apply rg_outA rfl h1 (gf := brC s) (lb := brL s (g + 3) (g + 3 + 1)) rfl trivial (brC_enters s) hSQ (fun _ => rfl)
    (fun pre V => sumW pre ≤ c ∧ Boxed V (g + 1) 3 (.int .i64 ((c - sumW pre : Nat) : Int)) ∧ Boxed V (g + 1 + 1) 71 .nilIface ∧ Below g w V)
    (fun q pre V => q = .ret ∧ Boxed V (g + 1 + 1) 71 (encO (pick (brs H s) c)) ∧ Below g w V)
    (fun pre => (Abd.pure _ _).and ((Abd.boxed _ _ _ _).and ((Abd.boxed _ _ _ _).and (Abd.belowOf (by omega) (by omega))))) (fun _ _ => (Abd.pure _ _).and ((Abd.boxed _ _ _ _).and (Abd.belowOf (by omega) (by omega)))) (fun _ _ => Abd.pure _ _)
    ⟨by simp [sumW], by rw [show c - sumW [] = c by simp [sumW]]; exact HY.out, HZ.out, HB.out⟩
  case hassign =>
    intro l pre x V K hi ho hK
    simp only [brEnc]
    gi_wp2_with fail
    first | rfl | exact hK _ rfl
  case hbody =>
    rintro l pre x V hl hr ⟨hle, hbx, hbz, hB⟩ ⟨rest, hrest⟩
    have hpk : pick (brs H s) c = pick (x :: rest) (c - sumW pre) := by rw [hrest]; exact pick_append pre (x :: rest) c hle
    have hap := sumW_append pre x
    have hc := hbx.cell
    have hf := hbx.frozen
    have hcz := hbz.cell
    have hfz := hbz.frozen
    obtain ⟨c1, hc1⟩ : ∃ c1, c - sumW pre = c1 := ⟨_, rfl⟩
    obtain ⟨wt, hwt⟩ : ∃ wt, x.1 = wt := ⟨_, rfl⟩
    simp only [pick] at hpk
    rw [hc1, hwt] at hpk
    rw [hc1] at hc hbx
    rw [hwt] at hap
    by_cases hlt : c1 < wt
    · rw [if_pos hlt] at hpk
      have hd : decide (((c1 : Nat) : Int) < ((wt : Nat) : Int)) = true := by simp; omega
      have hd' : ((c1 : Nat) : Int) < ((wt : Nat) : Int) := by omega
      have HBX := hid (show Boxed (V.setCell ⟨g + 1 + 1, 0, none⟩ (encS x.2)) (g + 1 + 1) 71 (encO (pick (brs H s) c)) by rw [hpk]; exact hbz.set _)
      have HKL := hid ((KeepsL.refl V).setCell (i := 0) (encS x.2) hbz)
      have hst := storeS (P := Try.prog) hbz x.2
      have HB2 := hid (hB.setCell (p := ⟨g + 1 + 1, 0, none⟩) (show g ≤ g + 1 + 1 by omega) (encS x.2))
      clear hle hap hbx hbz hrest hB hpk hlt
      subst hwt
      gi_wp2_with fail
      rw [hst]
      gi_wp2_with fail
      exact ⟨HKL.out.r l, rfl, HBX.out, HB2.out⟩
    · have hd : decide (((c1 : Nat) : Int) < ((wt : Nat) : Int)) = false := by simp; omega
      have hd' : ¬ ((c1 : Nat) : Int) < ((wt : Nat) : Int) := by omega
      obtain ⟨c2, hc2⟩ : ∃ c2, c1 - wt = c2 := ⟨_, rfl⟩
      have e1 : ((c1 : Nat) : Int) - ((wt : Nat) : Int) = ((c2 : Nat) : Int) := by omega
      have w1 := wrap_nat c2 (by omega)
      have HLE := hid (show sumW (pre ++ [x]) ≤ c ∧ c - sumW (pre ++ [x]) = c2 by omega)
      have HBX := hid (show Boxed (V.setCell ⟨g + 1, 0, none⟩ (.int .i64 ((c2 : Nat) : Int))) (g + 1) 3 (.int .i64 ((c2 : Nat) : Int)) from hbx.set _)
      have HBZ := hid (Boxed.other hbz (show g + 1 + 1 ≠ g + 1 by omega) (.int .i64 ((c2 : Nat) : Int)))
      have HKL := hid ((KeepsL.refl V).setCell (i := 0) (.int .i64 ((c2 : Nat) : Int)) hbx)
      have HKS := hid ((KeptS.refl (SBr N (g + 3) (g + 3 + 2)) V).setCell (b := g + 1) (i := 0) (.int .i64 ((c2 : Nat) : Int)) (by unfold SBr; omega))
      have HB2 := hid (hB.setCell (p := ⟨g + 1, 0, none⟩) (show g ≤ g + 1 by omega) (.int .i64 ((c2 : Nat) : Int)))
      clear hle hap hbx hbz hrest hB hpk hlt hc1 hc2 hcz hfz
      subst hwt
      gi_wp2_with fail
      exact ⟨HKL.out, HKS.out, HLE.out.1, by rw [HLE.out.2]; exact HBX.out, HBZ.out, HB2.out⟩
  case hdone =>
    rintro D xs V hD rfl ⟨hle, hbx, hbz, hB⟩ hmk
    have hpk : pick (brs H s) c = none := by
      have := pick_append (brs H s) [] c hle
      rwa [List.append_nil] at this
    have hcz := hbz.cell
    have hfz := hbz.frozen
    have HBX := hid (hbz.set .nilIface)
    have HB2 := hid (hB.setCell (p := ⟨g + 1 + 1, 0, none⟩) (show g ≤ g + 1 + 1 by omega) .nilIface)
    have hne : g + 1 + 1 ≠ D := by omega
    have HPK := hid hpk
    clear hbx hbz hB hle hpk
    gi_wp2_with fail
    refine leaves_marks g [D] _ (by simp) (fun D' hD' => ?_) (fun W' hb' hc' => ?_)
    · obtain rfl : D' = D := by simpa using hD'
      exact ⟨(heap_setCell_other V ⟨g + 1 + 1, 0, none⟩ D' _ (show D' ≠ g + 1 + 1 by omega)).trans hmk, by omega⟩
    · exact ⟨_, results_cell Try.results70 rfl Try.isAgg71 (hc' _ _ HBX.out rfl), by rw [HPK.out]; rfl, by rw [hg]; exact HB2.out.trans hb'⟩
  case hstop =>
    rintro D q pre V hD ⟨rfl, hbz, hB⟩ hmk
    have HBZ := hid hbz
    have HB2 := hid hB
    clear hbz hB
    gi_wp2_with fail
    refine leaves_marks g [D] _ (by simp) (fun D' hD' => ?_) (fun W' hb' hc' => ?_)
    · obtain rfl : D' = D := by simpa using hD'
      exact ⟨hmk, by omega⟩
    · exact ⟨_, results_cell Try.results70 rfl Try.isAgg71 (hc' _ _ HBZ.out rfl), rfl, by rw [hg]; exact HB2.out.trans hb'⟩
theorem choices_c (N : Nat) (H : HV) (fv cv : Value) (s : St) (hF : Fit H s) (w : World) (hH : HandAt w N H fv cv) :
    Calls Try.prog 63 #[.agg (handA H fv cv), encS s] w fun e w' => e = .returned (.int .i64 ((chN H s : Nat) : Int)) ∧ Below w.heap.size w w' :=
  callsIn_wide.1 (choices_in 8 (Nat.le_refl _) N H fv cv s hF w hH)
theorem choose_c (N : Nat) (H : HV) (fv cv : Value) (s : St) (hF : Fit H s) (c : Nat) (hc63 : c ≤ 9223372036854775807) (w : World) (hH : HandAt w N H fv cv) :
    Calls Try.prog 70 #[.agg (handA H fv cv), encS s, .int .i64 ((c : Nat) : Int)] w fun e w' => e = .returned (encO (pick (brs H s) c)) ∧ Below w.heap.size w w' :=
  callsIn_wide.1 (choose_in 8 (Nat.le_refl _) N H fv cv s hF c hc63 w hH)
theorem choose_neg (H : HV) (fv cv : Value) (s : St) (c : Int) (hc : c < 0) (w : World) :
    Calls Try.prog 70 #[.agg (handA H fv cv), encS s, .int .i64 c] w fun e w' => e = .returned .nilIface ∧ Below w.heap.size w w' := by
  have hz := alloc3_2 w (.cells (handA H fv cv) 26) (.cells #[.int .i64 c] 3) (.cells #[.nilIface] 71)
  have hb := below3 w (.cells (handA H fv cv) 26) (.cells #[.int .i64 c] 3) (.cells #[.nilIface] 71)
  have hbx : Boxed _ (w.heap.size + 1 + 1) 71 .nilIface := hz
  have hd : decide (c < 0) = true := by simp [hc]
  have HBX := hid hbx
  have HB2 := hid hb
  refine (callsIn_wide (n := 8)).1 ?_
  refine callsIn_of_wp_marks Try.func70 rfl trivial ?_ rfl
  simp only [Try.ntmps70, List.size_toArray, List.length_cons, List.length_nil, Nat.reduceAdd, Nat.reduceSub, Array.replicate_succ, Array.replicate_zero, List.push_toArray, List.append_toArray, List.nil_append, List.cons_append]
  clear hz hb hbx
  gi_wp2_with fail
  refine leaves_marks w.heap.size [] _ (by simp) (fun D' hD' => by simp at hD') (fun W' hb' hc' => ?_)
  exact ⟨_, results_cell Try.results70 rfl Try.isAgg71 (hc' _ _ HBX.out rfl), rfl, HB2.out.trans hb'⟩
end Go.Proofs.Ytmjnelkeiogdcaa
/- Walks of package hand: within, times, divisor, blind. -/
namespace Go.Proofs.Ytmjnelkeiogdcaa
open Go Go.RowKit Go.Shelf
set_option maxRecDepth 100000

theorem within_c (n a b : Int) (w : World) : Calls Try.prog 48 #[.int .i64 n, .int .i64 a, .int .i64 b] w fun e w' => e = .returned (.bool (decide (a ≤ n) && decide (n ≤ b))) ∧ w = w' := by
  by_cases h1 : a ≤ n
  · have e1 : decide (a ≤ n) = true := by simp [h1]
    by_cases h2 : n ≤ b
    · have e2 : decide (n ≤ b) = true := by simp [h2]
      rw [e1, e2]
      go_enter Try.func48, Try.ntmps48
      go_wp2_with fail
      go_ret
      exact ⟨rfl, rfl⟩
    · have e2 : decide (n ≤ b) = false := by simp; omega
      rw [e1, e2]
      go_enter Try.func48, Try.ntmps48
      go_wp2_with fail
      go_ret
      exact ⟨rfl, rfl⟩
  · have e1 : decide (a ≤ n) = false := by simp; omega
    rw [e1]
    go_enter Try.func48, Try.ntmps48
    go_wp2_with fail
    go_ret
    exact ⟨rfl, rfl⟩
theorem tdivN (m b : Nat) : Int.tdiv ((m : Nat) : Int) ((b : Nat) : Int) = ((m / b : Nat) : Int) := by rw [Int.tdiv_eq_ediv_of_nonneg (by omega)]; push_cast; try rfl
theorem tmodN (m b : Nat) : Int.tmod ((m : Nat) : Int) ((b : Nat) : Int) = ((m % b : Nat) : Int) := by rw [Int.tmod_eq_emod_of_nonneg (by omega)]; push_cast; try rfl
/-- The product; 10^15 + 1 if it is above 10^15. -/
def timesN (a b : Nat) : Nat := if 0 < b ∧ 1000000000000000 / b < a then 1000000000000001 else a * b
theorem timesN_le (a b : Nat) : timesN a b ≤ 1000000000000001 := by
  unfold timesN
  split
  · exact Nat.le_refl _
  · rename_i h
    by_cases hb : 0 < b
    · have : a ≤ 1000000000000000 / b := by omega
      have := (Nat.le_div_iff_mul_le hb).1 this
      omega
    · have : b = 0 := by omega
      subst this
      simp
theorem times_c (a b : Nat) (ha : a < 9223372036854775808) (hb : b < 9223372036854775808) (w : World) : Calls Try.prog 44 #[.int .i64 ((a : Nat) : Int), .int .i64 ((b : Nat) : Int)] w fun e w' => e = .returned (.int .i64 ((timesN a b : Nat) : Int)) ∧ w = w' := by
  have hle := timesN_le a b
  unfold timesN at *
  by_cases h0 : 0 < b
  · have e0 : decide ((0 : Int) < ((b : Nat) : Int)) = true := by simp; omega
    have e0' : (0 : Int) < ((b : Nat) : Int) := by omega
    have hne : (((b : Nat) : Int) == 0) = false := by simp; omega
    have hne' : ((b : Nat) : Int) ≠ 0 := by omega
    have hq : Int.tdiv 1000000000000000 ((b : Nat) : Int) = ((1000000000000000 / b : Nat) : Int) := tdivN 1000000000000000 b
    have hql : 1000000000000000 / b ≤ 1000000000000000 := Nat.div_le_self _ _
    obtain ⟨q, hqq⟩ : ∃ q, 1000000000000000 / b = q := ⟨_, rfl⟩
    rw [hqq] at hq hql hle
    rw [hqq]
    have wq := wrap_nat q (by omega)
    by_cases h1 : q < a
    · have e1 : decide (((q : Nat) : Int) < ((a : Nat) : Int)) = true := by simp; omega
      have e1' : ((q : Nat) : Int) < ((a : Nat) : Int) := by omega
      rw [if_pos ⟨h0, h1⟩]
      clear hqq
      go_enter Try.func44, Try.ntmps44
      go_wp2_with fail
      go_ret
      exact ⟨rfl, rfl⟩
    · have e1 : decide (((q : Nat) : Int) < ((a : Nat) : Int)) = false := by simp; omega
      have e1' : ¬ ((q : Nat) : Int) < ((a : Nat) : Int) := by omega
      rw [if_neg (fun h => h1 h.2)] at hle ⊢
      obtain ⟨z, hz⟩ : ∃ z, a * b = z := ⟨_, rfl⟩
      have hm : ((a : Nat) : Int) * ((b : Nat) : Int) = ((z : Nat) : Int) := by rw [← hz]; push_cast; rfl
      rw [hz] at hle ⊢
      have wz := wrap_nat z (by omega)
      clear hqq hz
      go_enter Try.func44, Try.ntmps44
      go_wp2_with fail
      go_ret
      exact ⟨rfl, rfl⟩
  · obtain rfl : b = 0 := by omega
    rw [if_neg (by omega)]
    have hm : ((a : Nat) : Int) * 0 = 0 := by simp
    go_enter Try.func44, Try.ntmps44
    go_wp2_with fail
    go_ret
    exact ⟨by simp, rfl⟩
set_option maxHeartbeats 400000 in
theorem divisor_c (a b : Nat) (ha : a < 9223372036854775808) (hb : b < 9223372036854775808) (w : World) : Calls Try.prog 45 #[.int .i64 ((a : Nat) : Int), .int .i64 ((b : Nat) : Int)] w fun e w' => e = .returned (.int .i64 ((Nat.gcd b a : Nat) : Int)) ∧ ∃ m, w' = w.drewN m := by
  obtain ⟨d, hd⟩ : ∃ d, Nat.gcd b a = d := ⟨_, rfl⟩
  rw [hd]
  have HD := hid hd
  clear hd
  go_enter Try.func45, Try.ntmps45
  go_wp2_with fail
  go_loopw [0, 1] (fun x y wr => ∃ a' b' m : Nat, x = .int .i64 a' ∧ y = .int .i64 b' ∧ a' < 9223372036854775808 ∧ b' < 9223372036854775808 ∧ Nat.gcd b' a' = d ∧ wr = w.drewN m) (fun _ y _ => (intOf y).toNat)
  case atStart => exact ⟨a, b, 0, rfl, rfl, ha, hb, HD.out, rfl⟩
  case round =>
    obtain ⟨a', b', m, rfl, rfl, ha', hb', hg, rfl⟩ := hrel
    by_cases h0 : b' = 0
    · subst h0
      have : a' = d := by simpa using hg
      subst this
      clear hg
      go_wp2_with fail
      go_ret
      exact ⟨rfl, _, rfl⟩
    · have hne : (((b' : Nat) : Int) != 0) = true := by simp; exact h0
      have hne1 : (((b' : Nat) : Int) == 0) = false := by simp; exact h0
      have hne' : ((b' : Nat) : Int) ≠ 0 := by omega
      have hq := tmodN a' b'
      have hr : a' % b' < b' := Nat.mod_lt _ (by omega)
      have hg2 : Nat.gcd (a' % b') b' = d := by rw [← hg, ← Nat.gcd_rec]
      have HG := hid hg2
      clear hg hg2 HD ha hb
      generalize a' % b' = r at *
      have wr' := wrap_nat r (by omega)
      go_wp2_with fail
      go_quiet (fail)
      go_wp2_with fail
      go_roundw
      case rel => exact ⟨b', r, m + nq, rfl, rfl, hb', by omega, HG.out, World.drewN_drewN _ _ _⟩
      case measure => simp [intOf]; omega
theorem blind_c (s : St) (c : Int) (w : World) : Calls Try.prog 62 #[encS s, .int .i64 c] w fun e w' => (∃ v, e = .returned v) ∧ w = w' := by
  go_enter Try.func62, Try.ntmps62
  go_wp2_with fail
  go_end0
  exact ⟨⟨_, rfl⟩, rfl⟩
end Go.Proofs.Ytmjnelkeiogdcaa
