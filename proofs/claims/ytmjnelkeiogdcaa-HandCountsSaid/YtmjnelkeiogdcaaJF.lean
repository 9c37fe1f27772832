/- Walks of package hand: a counter counts on. -/
import Derived.Test.YtmjnelkeiogdcaaJE
import Derived.DefersIn
import Derived.TacticsInMore
set_option linter.unusedSimpArgs false
set_option linter.unusedVariables false
namespace Go.Proofs.Ytmjnelkeiogdcaa
open Go Go.RowKit Go.Shelf
set_option maxRecDepth 100000

section
variable {P : Program} {ops : Array Oper}
/-- takeE where the operation is guarded, and wanted. -/
theorem takeG {Q' : Exit → Act → World → Prop} {S : World → Prop} {D : Nat → Bool} {i : Nat} {oi : Oper} (v : Value) {fuel : Nat} {listed : Array Bool} {a : Act} {w : World} {d : Option Tmp} (hi : ops[i]? = some oi)
    (hs : Region.noSelect ops = true) (hD : dom ops D i = true) (hf : Region.free .any ops listed i = true) (hr : (Region.ready .any ops listed).contains i = true)
    (hQ : ∀ c a w, Q' (.panic c) (a.put oi.dst v) w → Q' (.panic c) a w) (hg : Region.wanted oi (yielded ops a.tmps) = true) (hy : ∀ W, S W → (execOp a.eval oi).run P W = .ok (.value v) W) (hS : S w) (hd : oi.dst = d)
    (h : wpAnyD P .any ops Q' S D fuel (listed.setIfInBounds i true) (a.put d v) w) : wpAnyD P .any ops Q' S D (fuel + 1) listed a w := by
  subst hd
  refine anyD_first hi hs hQ (fun j oj hj hno => ?_) fuel listed a w (Region.free_spec hi hf) (by simpa using hr) (.inl ⟨hg, hy⟩) hS h
  unfold dom at hD
  have hlt : j < ops.size := (Array.getElem?_eq_some_iff.1 hj).1
  have h1 := List.all_eq_true.1 hD j (List.mem_range.2 hlt)
  rw [Bool.or_eq_true] at h1
  refine h1.resolve_right fun h2 => ?_
  unfold demand at h2
  rw [hj] at h2
  simp only [Bool.not_not] at h2
  obtain ⟨e, he1, he2⟩ := Array.any_eq_true'.1 h2
  rw [Bool.and_eq_true, beq_iff_eq] at he2
  exact hno e he1 he2.1 he2.2
/-- .. and not wanted. -/
theorem takeU {Q' : Exit → Act → World → Prop} {S : World → Prop} {D : Nat → Bool} {i : Nat} {oi : Oper} {fuel : Nat} {listed : Array Bool} {a : Act} {w : World} {d : Option Tmp} (hi : ops[i]? = some oi)
    (hs : Region.noSelect ops = true) (hD : dom ops D i = true) (hf : Region.free .any ops listed i = true) (hr : (Region.ready .any ops listed).contains i = true)
    (hQ : ∀ c a w, Q' (.panic c) (a.put oi.dst undef) w → Q' (.panic c) a w) (hg : Region.wanted oi (yielded ops a.tmps) = false) (hS : S w) (hd : oi.dst = d)
    (h : wpAnyD P .any ops Q' S D fuel (listed.setIfInBounds i true) (a.put d undef) w) : wpAnyD P .any ops Q' S D (fuel + 1) listed a w := by
  subst hd
  refine anyD_first hi hs hQ (fun j oj hj hno => ?_) fuel listed a w (Region.free_spec hi hf) (by simpa using hr) (.inr ⟨hg, rfl⟩) hS h
  unfold dom at hD
  have hlt : j < ops.size := (Array.getElem?_eq_some_iff.1 hj).1
  have h1 := List.all_eq_true.1 hD j (List.mem_range.2 hlt)
  rw [Bool.or_eq_true] at h1
  refine h1.resolve_right fun h2 => ?_
  unfold demand at h2
  rw [hj] at h2
  simp only [Bool.not_not] at h2
  obtain ⟨e, he1, he2⟩ := Array.any_eq_true'.1 h2
  rw [Bool.and_eq_true, beq_iff_eq] at he2
  exact hno e he1 he2.1 he2.2
theorem stepG {Q' : Exit → Act → World → Prop} {S : World → Prop} {D : Nat → Bool} (j : Nat) {md : Region.Mode} {oj : Oper} {fuel : Nat} {listed : Array Bool} {a : Act} {w : World} (hr : Region.ready md ops listed = [j]) (hj : ops[j]? = some oj) (hg : Region.wanted oj (yielded ops a.tmps) = true)
    (h : ∀ K : Act → World → Prop, (∀ a' w', (D j = true → S w') → wpAnyD P md ops Q' S D fuel (listed.setIfInBounds j true) a' w' → K a' w') → oj.wp P a w K Q') : wpAnyD P md ops Q' S D (fuel + 1) listed a w := by
  refine ⟨fun h0 => (by rw [h0] at hr; cases hr), fun i hi => ?_⟩
  rw [hr] at hi
  obtain rfl : i = j := by simpa using hi
  unfold wpOp
  simp only [hj]
  rw [if_pos hg]
  exact .inl (h _ fun a' w' h1 h2 => ⟨h1, h2⟩)
end
theorem wp_enterD {P : Program} {o : Oper} {a : Act} {w : World} {K : Act → World → Prop} {Q' : Exit → Act → World → Prop} {f : FuncId} {args : Array Value} (d : Tmp) (hd : o.dst = some d) (hrun : (execOp a.eval o).run P w = .ok (.enter f args) w)
    (h : Calls P f args w fun e w' => ∃ v, e = .returned v ∧ K { a with tmps := a.tmps.setIfInBounds d v } w') : o.wp P a w K Q' := by
  unfold Oper.wp
  rw [hrun]
  exact h.mono fun e w' ⟨v, he, hk⟩ => by subst he; simp only [Act.put, hd]; exact hk
/-- The cells of a counter. -/
def ctrA (H : HV) (fv cv : Value) (o : Int) (mb : Nat) : Array Value := #[.int .i64 ((H.kind : Nat) : Int), .int .i64 ((H.count : Nat) : Int), fv, .int .i64 H.lowI, .int .i64 H.highI, .int .i64 ((H.group : Nat) : Int), .int .i64 ((H.changes : Nat) : Int), cv, .int .i64 o, .map (some mb)]
/-- What a counter knows is so. -/
def KnAt (W : World) (mb : Nat) (H : HV) (o : Int) : Prop := ∃ M : SL, MapAt W mb M ∧ ∀ p ∈ M, p.2 = ((satN (cntO H o p.1) : Nat) : Int)
theorem KnAt.abd (B mb : Nat) (H : HV) (o : Int) : Abd B fun W => KnAt W mb H o := Abd.ex fun M => (MapAt.abd B mb M).and (Abd.pure B _)
theorem KnAt.below {W W' : World} {mb : Nat} {H : HV} {o : Int} (h : KnAt W mb H o) (hb : Below W.heap.size W W') : KnAt W' mb H o := (KnAt.abd 0 mb H o).below _ _ h hb
theorem put_mem (L : SL) (s : St) (v : Int) (q : St × Int) (h : q ∈ putS L s v) : q ∈ L ∨ q = (s, v) := by
  unfold putS at h
  split at h
  · rcases List.mem_or_eq_of_mem_set h with h | h
    · exact .inl h
    · exact .inr h
  · rcases List.mem_append.1 h with h | h
    · exact .inl h
    · exact .inr (by simpa using h)
theorem kn_find {L : SL} {H : HV} {o : Int} (h : ∀ p ∈ L, p.2 = ((satN (cntO H o p.1) : Nat) : Int)) {s : St} {z : Nat × Int} (hz : findS s L 0 = some z) : z.2 = ((satN (cntO H o s) : Nat) : Int) := by
  obtain ⟨_, h2, h3⟩ := findS_some s L 0 z.1 z.2 hz
  have := h _ (List.getElem_mem h2)
  rw [h3] at this
  exact this
theorem Abd.grown {B : Nat} {w : World} {r : Nat} (hB : w.heap.size ≤ B) : Abd B fun W => w.grownBy W (some r) :=
  ⟨fun W W' h hb => grown_trans h (below_grown hb),
   fun W l r0 r1 hl h hr => ⟨h.os, h.tape, h.output, by simpa [World.putObj] using h.size, fun k hk hne => (World.putObj_heap_other (by omega)).trans (h.block k hk hne)⟩,
   fun W D hl h hr => ⟨h.os, h.tape, h.output, by simpa [World.putObj] using h.size, fun k hk hne => (World.putObj_heap_other (by omega)).trans (h.block k hk hne)⟩⟩
theorem exec_ldctr {ev : Operand → Value} {o : Oper} {x : Operand} {cp mb : Nat} {W : World} {H : HV} {fv cv : Value} {oo : Int} (ho : o.op = .load 26 x) (hx : ev x = .pointer (some ⟨cp, 0, none⟩)) (hg : W.heap[cp]? = some (.cells (ctrA H fv cv oo mb) 110 (0, 0))) :
    (execOp ev o).run Try.prog W = .ok (.value (.agg (handA H fv cv))) W := by
  have hr : W.rangeAt cp 0 (handA H fv cv).toList := World.rangeAt_of_block hg 0 8
  have h := run_loadAt_mid (P := Try.prog) W cp 0 26 (handA H fv cv).toList _ hr Try.underlying26 rfl (by kernel_rfl)
  simp only [execOp, ho, hx, Instr.sureAddr, Sem.run_bind, Sem.run_pure, Result.andThen_ok, h]
theorem exec_getS2 {T : TypeId} (hT : MapT T) {ev : Operand → Value} {o : Oper} {x y : Operand} {nb : Nat} {W : World} {M : SL} {s : St} (ho : o.op = .lookup T x y true) (hx : ev x = .map (some nb)) (hy : ev y = encS s) (hM : MapAt W nb M) :
    (execOp ev o).run Try.prog W = .ok (.value (.tuple #[.int .i64 (getS M s), .bool (findS s M 0).isSome])) W := by
  have h := run_lookupS2 hT hM s
  simp [execOp, ho, hx, hy, h, go_sem]
theorem exec_ldptr {ev : Operand → Value} {o : Oper} {x : Operand} {g : Nat} {W : World} {v : Value} (ho : o.op = .load 81 x) (hx : ev x = .pointer (some ⟨g, 0, none⟩)) (hg : Boxed W g 81 v) :
    (execOp ev o).run Try.prog W = .ok (.value v) W := by
  have hc := hg.cell
  simp [execOp, ho, hx]
  go_simp
theorem exec_ldmap {ev : Operand → Value} {o : Oper} {x : Operand} {p : Addr} {W : World} {v : Value} (ho : o.op = .load 74 x) (hx : ev x = .pointer (some p)) (hg : W.cell? p = some v) :
    (execOp ev o).run Try.prog W = .ok (.value v) W := by
  simp [execOp, ho, hx]
  go_simp
theorem exec_nil {ev : Operand → Value} {o : Oper} {x : Operand} {p : Addr} {W : World} (ho : o.op = .nilCheck x) (hx : ev x = .pointer (some p)) : (execOp ev o).run Try.prog W = .ok (.value (.pointer (some p))) W := by
  simp [execOp, ho, hx]
theorem exec_nilS {ev : Operand → Value} {o : Oper} {x : Operand} {s : St} {W : World} (ho : o.op = .nilCheck x) (hx : ev x = encS s) : (execOp ev o).run Try.prog W = .ok (.value (encS s)) W := by
  cases s <;> simp [execOp, ho, hx, encS, encT, encA] <;> go_simp
theorem exec_fld {ev : Operand → Value} {o : Oper} {x : Operand} {cp i k : Nat} {W : World} (ho : o.op = .fieldAddr 110 x i) (hx : ev x = .pointer (some ⟨cp, 0, none⟩)) (hk : (i = 0 ∧ k = 0) ∨ (i = 1 ∧ k = 8) ∨ (i = 2 ∧ k = 9)) : (execOp ev o).run Try.prog W = .ok (.value (.pointer (some ⟨cp, k, none⟩))) W := by
  rcases hk with ⟨rfl, rfl⟩ | ⟨rfl, rfl⟩ | ⟨rfl, rfl⟩ <;> simp [execOp, ho, hx] <;> go_simp
/-- The deferred call: what was counted is known from now on. -/
theorem count1_d (n : Nat) (cp mb b s' r : Nat) (H : HV) (fv cv : Value) (o : Int) (s : St) (W : World) (M : SL) (v : Int) (hc : Boxed W b 81 (.pointer (some ⟨cp, 0, none⟩))) (hs : W.heap[s']? = some (.cells #[encS s] 71 (0, 0))) (hr : Boxed W r 3 (.int .i64 v)) (hC : W.heap[cp]? = some (.cells (ctrA H fv cv o mb) 110 (0, 0))) (hM : MapAt W mb M) :
    CallsDIn Fence.wide n Try.prog 68 #[.pointer (some ⟨r, 0, none⟩), .pointer (some ⟨b, 0, none⟩), .pointer (some ⟨s', 0, none⟩)] .returning W fun e u w' => u = .returning ∧ (∃ x, e = .returned x) ∧ w' = W.drew.putObj mb (mapO (putS M s v)) := by
  have hS0 : (fun X => Boxed X b 81 (.pointer (some ⟨cp, 0, none⟩)) ∧ X.heap[s']? = some (.cells #[encS s] 71 (0, 0)) ∧ Boxed X r 3 (.int .i64 v) ∧ X.heap[cp]? = some (.cells (ctrA H fv cv o mb) 110 (0, 0))) W.drew := ⟨hc, hs, hr, hC⟩
  have hM' : MapAt W.drew mb M := hM
  have hT : MapT 74 := Try.underlying74
  have hup := run_updateS hT hM' s v
  refine CallsDIn.mono (callsDIn_of_wp (R := fun e w' => (∃ x, e = .returned x) ∧ w' = W.drew.putObj mb (mapO (putS M s v))) Try.func68 rfl trivial ?_) (fun e u w' h => ⟨h.1, h.2⟩)
  simp only [Try.ntmps68, List.size_toArray, List.length_cons, List.length_nil, Nat.reduceAdd, Nat.reduceSub, Array.replicate_succ, Array.replicate_zero, List.push_toArray, List.append_toArray, List.nil_append, List.cons_append]
  gi_wp2_with fail
  refine regD_in lets_wide (fun X => Boxed X b 81 (.pointer (some ⟨cp, 0, none⟩)) ∧ X.heap[s']? = some (.cells #[encS s] 71 (0, 0)) ∧ Boxed X r 3 (.int .i64 v) ∧ X.heap[cp]? = some (.cells (ctrA H fv cv o mb) 110 (0, 0))) (fun j => decide (j < 6)) (by kernel_rfl) (by kernel_rfl) ?_
  refine takeE (i := 0) (.pointer (some ⟨cp, 0, none⟩)) (d := some 3) rfl (by kernel_rfl) (by kernel_rfl) (by kernel_rfl) (by kernel_rfl) (fun _ _ _ h => h) rfl (fun X hX => by exact exec_ldptr rfl rfl hX.1) hS0 rfl ?_
  simp only [Act.put, List.setIfInBounds_toArray, List.set_cons_zero, List.set_cons_succ]
  refine takeE (i := 1) (.pointer (some ⟨cp, 0, none⟩)) (d := some 4) rfl (by kernel_rfl) (by kernel_rfl) (by kernel_rfl) (by kernel_rfl) (fun _ _ _ h => h) rfl (fun X hX => by exact exec_nil rfl rfl) hS0 rfl ?_
  simp only [Act.put, List.setIfInBounds_toArray, List.set_cons_zero, List.set_cons_succ]
  refine takeE (i := 2) (.pointer (some ⟨cp, 9, none⟩)) (d := some 5) rfl (by kernel_rfl) (by kernel_rfl) (by kernel_rfl) (by kernel_rfl) (fun _ _ _ h => h) rfl (fun X hX => by exact exec_fld rfl rfl (.inr (.inr ⟨rfl, rfl⟩))) hS0 rfl ?_
  simp only [Act.put, List.setIfInBounds_toArray, List.set_cons_zero, List.set_cons_succ]
  refine takeE (i := 3) (.map (some mb)) (d := some 6) rfl (by kernel_rfl) (by kernel_rfl) (by kernel_rfl) (by kernel_rfl) (fun _ _ _ h => h) rfl (fun X hX => by exact exec_ldmap rfl rfl (cell_of_row X cp 9 _ _ _ hX.2.2.2)) hS0 rfl ?_
  simp only [Act.put, List.setIfInBounds_toArray, List.set_cons_zero, List.set_cons_succ]
  refine takeE (i := 4) (encS s) (d := some 7) rfl (by kernel_rfl) (by kernel_rfl) (by kernel_rfl) (by kernel_rfl) (fun _ _ _ h => h) rfl (fun X hX => by exact exec_ldstate rfl rfl hX.2.1) hS0 rfl ?_
  simp only [Act.put, List.setIfInBounds_toArray, List.set_cons_zero, List.set_cons_succ]
  refine takeE (i := 5) (.int .i64 v) (d := some 8) rfl (by kernel_rfl) (by kernel_rfl) (by kernel_rfl) (by kernel_rfl) (fun _ _ _ h => h) rfl (fun X hX => by exact exec_ldint rfl rfl hX.2.2.1) hS0 rfl ?_
  simp only [Act.put, List.setIfInBounds_toArray, List.set_cons_zero, List.set_cons_succ]
  clear hS0
  refine stepD 6 (by kernel_rfl) rfl rfl (fun K hK => ?_)
  go_simp
  refine hK _ _ (fun h => by cases h) ?_
  clear hK K
  refine doneD (by kernel_rfl) ?_ _
  refine OnlyNorm.normal ?_
  exact ⟨rfl, _, results_none rfl _ _ _, ⟨_, rfl⟩, rfl⟩
theorem cnt_leaf (H : HV) (s : St) (hb : brs H s = []) (hl : Last H s) : dep s = 0 := Classical.byContradiction fun h => by
  have := hl.self h
  unfold chN at this
  rw [hb] at this
  simp at this
theorem exec_ldbool {ev : Operand → Value} {o : Oper} {x : Operand} {g : Nat} {W : World} {v : Value} (ho : o.op = .load 4 x) (hx : ev x = .pointer (some ⟨g, 0, none⟩)) (hg : Boxed W g 4 v) :
    (execOp ev o).run Try.prog W = .ok (.value v) W := by
  have hc := hg.cell
  simp [execOp, ho, hx]
  go_simp
theorem HandAt.grown {w X : World} {N mb : Nat} {H : HV} {fv cv : Value} (h : HandAt w N H fv cv) (hg : w.grownBy X (some mb)) (hN : N ≤ mb) : HandAt X N H fv cv :=
  h.keptF (S := fun b => b < N) (fun _ h => h) (fun b hb o ho _ => grown_block hg ho (by omega)) (Nat.le_trans h.le hg.size)
theorem exec_min {ev : Operand → Value} {o : Oper} {x y : Operand} {a c : Nat} {W : World} {ts : Array TypeId} (ho : o.op = .call { callee := .builtin .min, args := #[x, y], argTypes := ts }) (hx : ev x = .int .i64 ((a : Nat) : Int)) (hy : ev y = .int .i64 ((c : Nat) : Int)) :
    (execOp ev o).run Try.prog W = .ok (.value (.int .i64 ((min a c : Nat) : Int))) W := by
  have e : (if ((c : Nat) : Int) < ((a : Nat) : Int) then ((c : Nat) : Int) else ((a : Nat) : Int)) = ((min a c : Nat) : Int) := by split <;> omega
  have h := run_min_int2 (P := Try.prog) (w := W) ts o.type .i64 .i64 ((a : Nat) : Int) ((c : Nat) : Int)
  rw [e] at h
  simp [execOp, ho]
  go_simp
theorem brs_one (H : HV) (s : St) (hF : Fit H s) (x : Nat × St) (h : x ∈ brs H s) : x.1 ≤ 20000 := by
  have h1 := brs_small H s hF
  unfold chN at h1
  have := le_sum_mem _ _ (List.mem_map.2 ⟨x, h, rfl⟩ : x.1 ∈ (brs H s).map Prod.fst)
  omega
attribute [local go_sem] Oper.semAt_some
set_option maxHeartbeats 4000000 in
theorem count_step (n : Nat) (hn : 24 ≤ n) (N : Nat) (H : HV) (fv cv : Value) (o : Int) (cp mb : Nat) (hN : N ≤ mb) (s : St) (hF : Fit H s) (hl0 : Last H s)
    (IH : ∀ (s' : St), dep s' + 1 = dep s → Fit H s' → Last H s' → ∀ w, HandAt w N H fv cv → w.heap[cp]? = some (.cells (ctrA H fv cv o mb) 110 (0, 0)) → KnAt w mb H o →
      Calls Try.prog 50 #[.pointer (some ⟨cp, 0, none⟩), encS s'] w fun e w' => e = .returned (.int .i64 ((satN (cntO H o s') : Nat) : Int)) ∧ w.grownBy w' (some mb) ∧ KnAt w' mb H o)
    (w : World) (hA : HandAt w N H fv cv) (hC : w.heap[cp]? = some (.cells (ctrA H fv cv o mb) 110 (0, 0))) (hK : KnAt w mb H o) :
    CallsIn Fence.wide n Try.prog 50 #[.pointer (some ⟨cp, 0, none⟩), encS s] w fun e w' => e = .returned (.int .i64 ((satN (cntO H o s) : Nat) : Int)) ∧ w.grownBy w' (some mb) ∧ KnAt w' mb H o := by
  have hx := alloc3_0 w (.cells #[.pointer (some ⟨cp, 0, none⟩)] 81) (.cells #[encS s] 71) (.cells #[.int .i64 0] 3)
  have hy := alloc3_1 w (.cells #[.pointer (some ⟨cp, 0, none⟩)] 81) (.cells #[encS s] 71) (.cells #[.int .i64 0] 3)
  have hz := alloc3_2 w (.cells #[.pointer (some ⟨cp, 0, none⟩)] 81) (.cells #[encS s] 71) (.cells #[.int .i64 0] 3)
  have hb := below3 w (.cells #[.pointer (some ⟨cp, 0, none⟩)] 81) (.cells #[encS s] 71) (.cells #[.int .i64 0] 3)
  have hmbw : mb < w.heap.size := by obtain ⟨M, hM, _⟩ := hK; exact hM.lt
  have hcpw : cp < w.heap.size := heap_lt hC
  have hcm : cp ≠ mb := by obtain ⟨M, hM, _⟩ := hK; exact (map_ne hM hC).symm
  refine callsIn_of_wp_marks Try.func50 rfl trivial ?_ rfl
  simp only [Try.ntmps50, List.size_toArray, List.length_cons, List.length_nil, Nat.reduceAdd, Nat.reduceSub, Array.replicate_succ, Array.replicate_zero, List.push_toArray, List.append_toArray, List.nil_append, List.cons_append]
  gi_upto_region 1 with fail
  show Code.wpIn _ _ _ _ _ _ (((w.alloc (.cells #[.pointer (some ⟨cp, 0, none⟩)] 81)).alloc (.cells #[encS s] 71)).alloc (.cells #[.int .i64 0] 3))
  have hT : MapT 74 := Try.underlying74
  obtain ⟨g, hg⟩ : ∃ g, w.heap.size = g := ⟨_, rfl⟩
  obtain ⟨w1, hw1⟩ : ∃ w1, ((w.alloc (.cells #[.pointer (some ⟨cp, 0, none⟩)] 81)).alloc (.cells #[encS s] 71)).alloc (.cells #[.int .i64 0] 3) = w1 := ⟨_, rfl⟩
  rw [hw1] at hx hy hz hb ⊢
  have hs1 : w1.heap.size = g + 3 := by rw [← hw1, ← hg]; simp
  rw [hg] at hx hy hz hmbw hcpw ⊢
  clear hw1
  have hA1 := hA.below (hb.mono (by rw [hg]; exact Nat.le_trans hN (Nat.le_of_lt hmbw)))
  have hC1 := heap_below hb hC (by omega)
  have hK1 := hK.below hb
  obtain ⟨M, hM, hMk⟩ := hK1
  have hS0 : (fun X => Below w1.heap.size w1 X) w1.drew := ⟨rfl, rfl, rfl, Nat.le_refl _, fun _ _ => rfl⟩
  refine regD_in lets_wide (fun X => Below w1.heap.size w1 X) (fun j => decide (j < 11)) (by kernel_rfl) (by kernel_rfl) ?_
  refine takeE (i := 0) (.pointer (some ⟨cp, 0, none⟩)) (d := some 11) rfl (by kernel_rfl) (by kernel_rfl) (by kernel_rfl) (by kernel_rfl) (fun _ _ _ h => h) rfl (fun X hX => by exact exec_ldptr rfl rfl (heap_below hX hx (heap_lt hx))) hS0 rfl ?_
  simp only [Act.put, List.setIfInBounds_toArray, List.set_cons_zero, List.set_cons_succ]
  refine takeE (i := 1) (.pointer (some ⟨cp, 0, none⟩)) (d := some 12) rfl (by kernel_rfl) (by kernel_rfl) (by kernel_rfl) (by kernel_rfl) (fun _ _ _ h => h) rfl (fun X hX => by exact exec_nil rfl rfl) hS0 rfl ?_
  simp only [Act.put, List.setIfInBounds_toArray, List.set_cons_zero, List.set_cons_succ]
  refine takeE (i := 2) (.pointer (some ⟨cp, 9, none⟩)) (d := some 13) rfl (by kernel_rfl) (by kernel_rfl) (by kernel_rfl) (by kernel_rfl) (fun _ _ _ h => h) rfl (fun X hX => by exact exec_fld rfl rfl (.inr (.inr ⟨rfl, rfl⟩))) hS0 rfl ?_
  simp only [Act.put, List.setIfInBounds_toArray, List.set_cons_zero, List.set_cons_succ]
  refine takeE (i := 3) (.map (some mb)) (d := some 14) rfl (by kernel_rfl) (by kernel_rfl) (by kernel_rfl) (by kernel_rfl) (fun _ _ _ h => h) rfl (fun X hX => by exact exec_ldmap rfl rfl (cell_of_row X cp 9 _ _ _ (heap_below hX hC1 (heap_lt hC1)))) hS0 rfl ?_
  simp only [Act.put, List.setIfInBounds_toArray, List.set_cons_zero, List.set_cons_succ]
  refine takeE (i := 4) (encS s) (d := some 15) rfl (by kernel_rfl) (by kernel_rfl) (by kernel_rfl) (by kernel_rfl) (fun _ _ _ h => h) rfl (fun X hX => by exact exec_ldstate rfl rfl (heap_below hX hy (heap_lt hy))) hS0 rfl ?_
  simp only [Act.put, List.setIfInBounds_toArray, List.set_cons_zero, List.set_cons_succ]
  refine takeE (i := 5) (.tuple #[.int .i64 (getS M s), .bool (findS s M 0).isSome]) (d := some 16) rfl (by kernel_rfl) (by kernel_rfl) (by kernel_rfl) (by kernel_rfl) (fun _ _ _ h => h) rfl (fun X hX => by exact exec_getS2 hT rfl rfl rfl (hM.below hX)) hS0 rfl ?_
  simp only [Act.put, List.setIfInBounds_toArray, List.set_cons_zero, List.set_cons_succ]
  refine takeE (i := 6) (.tuple #[.int .i64 (getS M s), .bool (findS s M 0).isSome]) (d := some 10) rfl (by kernel_rfl) (by kernel_rfl) (by kernel_rfl) (by kernel_rfl) (fun _ _ _ h => h) rfl (fun X hX => by exact rfl) hS0 rfl ?_
  simp only [Act.put, List.setIfInBounds_toArray, List.set_cons_zero, List.set_cons_succ]
  refine takeE (i := 7) (.int .i64 (getS M s)) (d := some 17) rfl (by kernel_rfl) (by kernel_rfl) (by kernel_rfl) (by kernel_rfl) (fun _ _ _ h => h) rfl (fun X hX => by exact rfl) hS0 rfl ?_
  simp only [Act.put, List.setIfInBounds_toArray, List.set_cons_zero, List.set_cons_succ]
  refine takeE (i := 8) (.bool (findS s M 0).isSome) (d := some 18) rfl (by kernel_rfl) (by kernel_rfl) (by kernel_rfl) (by kernel_rfl) (fun _ _ _ h => h) rfl (fun X hX => by exact rfl) hS0 rfl ?_
  simp only [Act.put, List.setIfInBounds_toArray, List.set_cons_zero, List.set_cons_succ]
  refine takeE (i := 9) (.int .i64 (getS M s)) (d := some 5) rfl (by kernel_rfl) (by kernel_rfl) (by kernel_rfl) (by kernel_rfl) (fun _ _ _ h => h) rfl (fun X hX => by exact rfl) hS0 rfl ?_
  simp only [Act.put, List.setIfInBounds_toArray, List.set_cons_zero, List.set_cons_succ]
  refine takeE (i := 10) (.bool (findS s M 0).isSome) (d := some 6) rfl (by kernel_rfl) (by kernel_rfl) (by kernel_rfl) (by kernel_rfl) (fun _ _ _ h => h) rfl (fun X hX => by exact rfl) hS0 rfl ?_
  simp only [Act.put, List.setIfInBounds_toArray, List.set_cons_zero, List.set_cons_succ]
  refine doneD (by kernel_rfl) ?_ _
  refine OnlyNorm.normal ?_
  cases hf : findS s M 0 with
  | some z =>
    have hzv := kn_find hMk hf
    have hget : getS M s = ((satN (cntO H o s) : Nat) : Int) := by unfold getS; rw [hf]; exact hzv
    simp only [hget, Option.isSome_some]
    have c1 := (show Boxed w1.drew (g + 1 + 1) 3 (.int .i64 0) from hz).cell
    have c2 := (show Boxed w1.drew (g + 1 + 1) 3 (.int .i64 0) from hz).frozen
    gi_wp2_with fail
    have hzS : Boxed (w1.setCell ⟨g + 1 + 1, 0, none⟩ (.int .i64 ((satN (cntO H o s) : Nat) : Int))).drew (g + 1 + 1) 3 (.int .i64 ((satN (cntO H o s) : Nat) : Int)) := (show Boxed w1 (g + 1 + 1) 3 (.int .i64 0) from hz).set _
    have hbS : Below g w (w1.setCell ⟨g + 1 + 1, 0, none⟩ (.int .i64 ((satN (cntO H o s) : Nat) : Int))).drew := ((hg ▸ hb).setCell (p := ⟨g + 1 + 1, 0, none⟩) (show g ≤ g + 1 + 1 by omega) _).trans ⟨rfl, rfl, rfl, Nat.le_refl _, fun _ _ => rfl⟩
    exact ⟨_, results_cell rfl rfl (fun _ => rfl) hzS, rfl, below_grown (by rw [hg]; exact hbS), M, (heap_setCell_other w1 ⟨g + 1 + 1, 0, none⟩ mb _ (show mb ≠ g + 1 + 1 by omega)).trans hM, hMk⟩
  | none =>
    have hget : getS M s = 0 := by unfold getS; rw [hf]
    simp only [hget, Option.isSome_none]
    clear hS0 hget hf hMk
    have hb2 : Below g w w1.drew := (hg ▸ hb).trans ⟨rfl, rfl, rfl, Nat.le_refl _, fun _ _ => rfl⟩
    have hK2 : KnAt w1.drew mb H o := hK.below (by rw [hg]; exact hb2)
    have hs2 : w1.drew.heap.size = g + 3 := hs1
    have hx2 : Boxed w1.drew g 81 (.pointer (some ⟨cp, 0, none⟩)) := hx
    have hy2 : w1.drew.heap[g + 1]? = some (.cells #[encS s] 71 (0, 0)) := hy
    have hz2 : Boxed w1.drew (g + 1 + 1) 3 (.int .i64 0) := hz
    have hA2 : HandAt w1.drew N H fv cv := hA1.below ⟨rfl, rfl, rfl, Nat.le_refl _, fun _ _ => rfl⟩
    have hC2 : w1.drew.heap[cp]? = some (.cells (ctrA H fv cv o mb) 110 (0, 0)) := hC1
    clear hM hx hy hz hA1 hC1 hs1
    obtain ⟨w2, hw2⟩ : ∃ w2, w1.drew = w2 := ⟨_, rfl⟩
    rw [hw2] at hb2 hK2 hs2 hx2 hy2 hz2 hA2 hC2 ⊢
    clear hw2 hb
    gi_upto_region 6 with fail
    have hb3 : Below w2.heap.size w2 (w2.alloc (.cells #[.bool false] 4)) := (Below.refl _ _).alloc (Nat.le_refl _) _
    have hs3 : (w2.alloc (.cells #[.bool false] 4)).heap.size = g + 4 := by simp [hs2]
    have hn3 : Boxed (w2.alloc (.cells #[.bool false] 4)) (g + 3) 4 (.bool false) := by have := World.alloc_heap_new w2 (.cells #[.bool false] 4); rw [hs2] at this; exact this
    obtain ⟨w3, hw3⟩ : ∃ w3, w2.alloc (.cells #[.bool false] 4) = w3 := ⟨_, rfl⟩
    rw [hw3] at hb3 hs3 hn3 ⊢
    clear hw3
    have hx3 := heap_below hb3 hx2 (heap_lt hx2)
    have hy3 := heap_below hb3 hy2 (heap_lt hy2)
    have hz3 := heap_below hb3 hz2 (heap_lt hz2)
    have hC3 := heap_below hb3 hC2 (heap_lt hC2)
    have hA3 := hA2.below (hb3.mono (by rw [hs2]; omega))
    have hK3 := hK2.below hb3
    have hB3 := hb2.trans (hb3.mono (by rw [hs2]; omega))
    clear hx2 hy2 hz2 hC2 hA2 hK2 hb2 hb3 hs2
    have hS0 : (fun X => Below w3.heap.size w3 X) w3.drew := ⟨rfl, rfl, rfl, Nat.le_refl _, fun _ _ => rfl⟩
    refine regD_in lets_wide (fun X => Below w3.heap.size w3 X) (fun j => decide (j < 8)) (by kernel_rfl) (by kernel_rfl) ?_
    refine takeE (i := 0) (encS s) (d := some 22) rfl (by kernel_rfl) (by kernel_rfl) (by kernel_rfl) (by kernel_rfl) (fun _ _ _ h => h) rfl (fun X hX => by exact exec_ldstate rfl rfl (heap_below hX hy3 (heap_lt hy3))) hS0 rfl ?_
    simp only [Act.put, List.setIfInBounds_toArray, List.set_cons_zero, List.set_cons_succ]
    refine takeE (i := 1) (.pointer (some ⟨cp, 0, none⟩)) (d := some 23) rfl (by kernel_rfl) (by kernel_rfl) (by kernel_rfl) (by kernel_rfl) (fun _ _ _ h => h) rfl (fun X hX => by exact exec_ldptr rfl rfl (heap_below hX hx3 (heap_lt hx3))) hS0 rfl ?_
    simp only [Act.put, List.setIfInBounds_toArray, List.set_cons_zero, List.set_cons_succ]
    refine takeE (i := 2) (.pointer (some ⟨cp, 0, none⟩)) (d := some 24) rfl (by kernel_rfl) (by kernel_rfl) (by kernel_rfl) (by kernel_rfl) (fun _ _ _ h => h) rfl (fun X hX => by exact exec_nil rfl rfl) hS0 rfl ?_
    simp only [Act.put, List.setIfInBounds_toArray, List.set_cons_zero, List.set_cons_succ]
    refine takeE (i := 3) (.pointer (some ⟨cp, 0, none⟩)) (d := some 25) rfl (by kernel_rfl) (by kernel_rfl) (by kernel_rfl) (by kernel_rfl) (fun _ _ _ h => h) rfl (fun X hX => by exact exec_fld rfl rfl (.inl ⟨rfl, rfl⟩)) hS0 rfl ?_
    simp only [Act.put, List.setIfInBounds_toArray, List.set_cons_zero, List.set_cons_succ]
    refine takeE (i := 4) (.agg (handA H fv cv)) (d := some 26) rfl (by kernel_rfl) (by kernel_rfl) (by kernel_rfl) (by kernel_rfl) (fun _ _ _ h => h) rfl (fun X hX => by exact exec_ldctr rfl rfl (heap_below hX hC3 (heap_lt hC3))) hS0 rfl ?_
    simp only [Act.put, List.setIfInBounds_toArray, List.set_cons_zero, List.set_cons_succ]
    refine takeE (i := 5) (encS s) (d := some 27) rfl (by kernel_rfl) (by kernel_rfl) (by kernel_rfl) (by kernel_rfl) (fun _ _ _ h => h) rfl (fun X hX => by exact exec_nilS rfl rfl) hS0 rfl ?_
    simp only [Act.put, List.setIfInBounds_toArray, List.set_cons_zero, List.set_cons_succ]
    refine takeE (i := 6) (encS s) (d := some 28) rfl (by kernel_rfl) (by kernel_rfl) (by kernel_rfl) (by kernel_rfl) (fun _ _ _ h => h) rfl (fun X hX => by exact rfl) hS0 rfl ?_
    simp only [Act.put, List.setIfInBounds_toArray, List.set_cons_zero, List.set_cons_succ]
    refine stepD 7 (by kernel_rfl) rfl rfl (fun K hK => ?_)
    refine wp_enterD 29 rfl (inv_br _ _ _ _ rfl rfl rfl _) ((branches_c N H fv cv s w3.drew (hA3.below ⟨rfl, rfl, rfl, Nat.le_refl _, fun _ _ => rfl⟩)).mono ?_)
    rintro e w4 ⟨rfl, hb4, hs4, hbr⟩
    refine ⟨_, rfl, hK _ _ (fun _ => hS0.trans hb4) ?_⟩
    clear hK K hS0
    simp only [Act.put, List.setIfInBounds_toArray, List.set_cons_zero, List.set_cons_succ]
    refine doneD (by kernel_rfl) ?_ _
    refine OnlyNorm.normal ?_
    have hsd : w3.drew.heap.size = g + 4 := hs3
    rw [hsd] at hs4 hbr ⊢
    have hb4' : Below w3.heap.size w3 w4 := (show Below w3.heap.size w3 w3.drew from ⟨rfl, rfl, rfl, Nat.le_refl _, fun _ _ => rfl⟩).trans hb4
    have hSB := br_seq (n - 1) (by omega) N (g + 4) (g + 4 + 1) (g + 4) (g + 4 + 2) ⟨by omega, by omega⟩ ⟨by omega, by omega⟩ H fv cv s hF w4 hbr
    have HX4 := hid (heap_below hb4' hx3 (heap_lt hx3))
    have HY4 := hid (heap_below hb4' hy3 (heap_lt hy3))
    have HZ4 := hid (heap_below hb4' hz3 (heap_lt hz3))
    have HN4 := hid (heap_below hb4' hn3 (heap_lt hn3))
    have HK4 := hid (hK3.below hb4')
    have HG4 := hid (below_grown (r := some mb) (hg ▸ hB3.trans (hb4'.mono (by omega))))
    have hs4' : w4.heap.size = g + 6 := by omega
    have HC := hid hC
    have HA := hid hA
    have HIH := hid IH
    clear hb4 hb4' hbr hx3 hy3 hz3 hn3 hC3 hA3 hK3 hB3 hs3 hsd hs4 hK hC hA IH
    gi_wp2_with fail
    apply rg_outA rfl (show 1 ≤ n by omega) (gf := brC s) (lb := brL s (g + 4) (g + 4 + 1)) rfl trivial (brC_enters s) hSB (fun _ => rfl)
      (fun xs X => Boxed X g 81 (.pointer (some ⟨cp, 0, none⟩)) ∧ X.heap[g + 1]? = some (.cells #[encS s] 71 (0, 0)) ∧ Boxed X (g + 1 + 1) 3 (.int .i64 ((satN (xs.map fun x => x.1 * cntO H o x.2).sum : Nat) : Int)) ∧ Boxed X (g + 3) 4 (.bool (!xs.isEmpty)) ∧ KnAt X mb H o ∧ w.grownBy X (some mb)) (fun _ _ _ => False)
      (fun xs => (Abd.boxed _ _ _ _).and ((Abd.block _ _ _ rfl).and ((Abd.boxed _ _ _ _).and ((Abd.boxed _ _ _ _).and ((KnAt.abd _ _ _ _).and (Abd.grown (by rw [hg, hs4']; omega))))))) (fun _ _ => Abd.pure _ _) (fun _ _ => Abd.pure _ _) ⟨HX4.out, HY4.out, HZ4.out, HN4.out, HK4.out, HG4.out⟩
    case hassign =>
      intro l xs x X K hi ho hK
      simp only [brEnc]
      gi_wp2_with fail
      first | rfl | exact hK _ rfl
    case hbody =>
      rintro l xs x X hl hr ⟨hX, hY, hZ, hN1, hKn, hGr⟩ ⟨rest, hrest⟩
      have hxm : x ∈ brs H s := by rw [hrest]; simp
      have hst := step_fit H s hF x hxm
      have hlx : Last H x.2 := hl0.step (w := x.1) hxm
      have hx1 := brs_one H s hF x hxm
      have c7 := hN1.cell
      have f7 := hN1.frozen
      have key : ∀ (k : Nat) (o : Obj), X.heap[k]? = some o → k ≠ g + 3 → (X.setCell ⟨g + 3, 0, none⟩ (.bool true)).heap[k]? = some o := fun k o h hk => (heap_setCell_other X ⟨g + 3, 0, none⟩ k _ hk).trans h
      have hX1 := key _ _ hX (by omega)
      have hY1 := key _ _ hY (by omega)
      have hZ1 := key _ _ hZ (by omega)
      have hN2 := hN1.set (.bool true)
      have hKn1 : KnAt (X.setCell ⟨g + 3, 0, none⟩ (.bool true)) mb H o := by obtain ⟨M, hM, hk⟩ := hKn; exact ⟨M, key _ _ hM (by omega), hk⟩
      have hGr1 : w.grownBy (X.setCell ⟨g + 3, 0, none⟩ (.bool true)) (some mb) := ⟨hGr.os, hGr.tape, hGr.output, by simpa using hGr.size, fun k hk hne => (heap_setCell_other X ⟨g + 3, 0, none⟩ k _ (show k ≠ g + 3 by omega)).trans (hGr.block k hk hne)⟩
      have hL1 := (KeepsL.refl X).setCell (i := 0) (.bool true) hN1
      have hS1 := (KeptS.refl (SBr N (g + 4) (g + 4 + 2)) X).setCell (b := g + 3) (i := 0) (.bool true) (by unfold SBr; omega)
      have HS := hid (show _ ∧ _ ∧ _ ∧ _ ∧ _ ∧ _ ∧ _ ∧ _ from ⟨hX1, hY1, hZ1, hN2, hKn1, hGr1, hL1, hS1⟩)
      clear key hX hY hZ hN1 hKn hGr hX1 hY1 hZ1 hN2 hKn1 hGr1 hL1 hS1
      gi_upto_region 10 with fail
      obtain ⟨X1, hX1'⟩ : ∃ X1, X.setCell ⟨g + 3, 0, none⟩ (.bool true) = X1 := ⟨_, rfl⟩
      rw [hX1'] at HS ⊢
      obtain ⟨hX1, hY1, hZ1, hN2, hKn1, hGr1, hL1, hS1⟩ := HS.out
      obtain ⟨oM, hKm, hKb⟩ : ∃ oM, X1.heap[mb]? = some oM ∧ isBook oM = false := by obtain ⟨M, hM, _⟩ := hKn1; exact ⟨_, hM, rfl⟩
      have hbd : Below X1.heap.size X1 X1.drew := ⟨rfl, rfl, rfl, Nat.le_refl _, fun _ _ => rfl⟩
      have hS0 : (fun Y => X1.grownBy Y (some mb) ∧ KnAt Y mb H o) X1.drew := ⟨below_grown hbd, hKn1.below hbd⟩
      refine regD_in (lets_round l) (fun Y => X1.grownBy Y (some mb) ∧ KnAt Y mb H o) (fun j => decide (j < 8)) (by kernel_rfl) (by kernel_rfl) ?_
      refine takeE (i := 0) (.int .i64 ((satN (xs.map fun x => x.1 * cntO H o x.2).sum : Nat) : Int)) (d := some 32) rfl (by kernel_rfl) (by kernel_rfl) (by kernel_rfl) (by kernel_rfl) (fun _ _ _ h => h) rfl (fun X hX => by exact exec_ldint rfl rfl (grown_block hX.1 hZ1 (by omega))) hS0 rfl ?_
      simp only [Act.put, List.setIfInBounds_toArray, List.set_cons_zero, List.set_cons_succ]
      refine takeE (i := 1) (.pointer (some ⟨cp, 0, none⟩)) (d := some 33) rfl (by kernel_rfl) (by kernel_rfl) (by kernel_rfl) (by kernel_rfl) (fun _ _ _ h => h) rfl (fun X hX => by exact exec_ldptr rfl rfl (grown_block hX.1 hX1 (by omega))) hS0 rfl ?_
      simp only [Act.put, List.setIfInBounds_toArray, List.set_cons_zero, List.set_cons_succ]
      refine takeE (i := 2) (encS x.2) (d := some 34) rfl (by kernel_rfl) (by kernel_rfl) (by kernel_rfl) (by kernel_rfl) (fun _ _ _ h => h) rfl (fun X hX => by exact rfl) hS0 rfl ?_
      simp only [Act.put, List.setIfInBounds_toArray, List.set_cons_zero, List.set_cons_succ]
      refine takeE (i := 4) (.int .i64 ((x.1 : Nat) : Int)) (d := some 36) rfl (by kernel_rfl) (by kernel_rfl) (by kernel_rfl) (by kernel_rfl) (fun _ _ _ h => h) rfl (fun X hX => by exact rfl) hS0 rfl ?_
      simp only [Act.put, List.setIfInBounds_toArray, List.set_cons_zero, List.set_cons_succ]
      refine stepD 3 (by kernel_rfl) rfl rfl (fun K hK => ?_)
      go_simp
      go_at_call 50
      refine (HIH.out x.2 hst.2 hst.1 hlx X1.drew (HA.out.grown (grown_trans hGr1 hS0.1) hN) (grown_block (grown_trans hGr1 hS0.1) HC.out hcm) hS0.2).mono ?_
      rintro e Y ⟨rfl, hgY, hkY⟩
      have hS0 : (fun Y => X1.grownBy Y (some mb) ∧ KnAt Y mb H o) Y := ⟨grown_trans hS0.1 hgY, hkY⟩
      go_simp
      refine hK _ _ (fun _ => hS0) ?_
      clear hK K hgY hkY
      refine stepD 5 (by kernel_rfl) rfl rfl (fun K hK => ?_)
      go_simp
      go_at_call 44
      refine (times_c (satN (cntO H o x.2)) x.1 (by have := satN_le (cntO H o x.2); omega) (by omega) Y).mono ?_
      rintro e Y' ⟨rfl, rfl⟩
      rw [sat_times]
      go_simp
      refine hK _ _ (fun _ => hS0) ?_
      clear hK K
      have ha1 := satN_le (xs.map fun x => x.1 * cntO H o x.2).sum
      have ha2 := satN_le (cntO H o x.2 * x.1)
      have hea := sat_add (xs.map fun x => x.1 * cntO H o x.2).sum (cntO H o x.2 * x.1)
      obtain ⟨n1, hn1⟩ : ∃ n1, satN (xs.map fun x => x.1 * cntO H o x.2).sum = n1 := ⟨_, rfl⟩
      obtain ⟨n2, hn2⟩ : ∃ n2, satN (cntO H o x.2 * x.1) = n2 := ⟨_, rfl⟩
      obtain ⟨n3, hn3⟩ : ∃ n3, satN ((xs.map fun x => x.1 * cntO H o x.2).sum + cntO H o x.2 * x.1) = n3 := ⟨_, rfl⟩
      rw [hn1, hn2, hn3] at hea
      rw [hn1] at ha1 ⊢
      rw [hn2] at ha2 ⊢
      refine takeE (i := 6) (.int .i64 ((n1 + n2 : Nat) : Int)) (d := some 38) rfl (by kernel_rfl) (by kernel_rfl) (by kernel_rfl) (by kernel_rfl) (fun _ _ _ h => h) rfl (fun X hX => by exact exec_addN rfl rfl rfl (by omega)) hS0 rfl ?_
      simp only [Act.put, List.setIfInBounds_toArray, List.set_cons_zero, List.set_cons_succ]
      refine takeE (i := 7) (.int .i64 ((min (n1 + n2) 1000000000000001 : Nat) : Int)) (d := some 39) rfl (by kernel_rfl) (by kernel_rfl) (by kernel_rfl) (by kernel_rfl) (fun _ _ _ h => h) rfl (fun X hX => by exact exec_min rfl rfl rfl) hS0 rfl ?_
      simp only [Act.put, List.setIfInBounds_toArray, List.set_cons_zero, List.set_cons_succ]
      rw [hea]
      have hZY := grown_block hS0.1 hZ1 (by omega)
      have c4 := Boxed.cell (show Boxed Y (g + 1 + 1) 3 _ from hZY)
      have f4 := Boxed.frozen (show Boxed Y (g + 1 + 1) 3 _ from hZY)
      refine stepD 8 (by kernel_rfl) rfl rfl (fun K hK => ?_)
      go_simp
      refine hK _ _ (fun h => by cases h) ?_
      clear hK K
      refine doneD (by kernel_rfl) ?_ _
      refine OnlyNorm.normal ?_
      have key : ∀ (k : Nat) (o : Obj), Y.heap[k]? = some o → k ≠ g + 1 + 1 → (Y.setCell ⟨g + 1 + 1, 0, none⟩ (.int .i64 ((n3 : Nat) : Int))).heap[k]? = some o := fun k o h hk => (heap_setCell_other Y ⟨g + 1 + 1, 0, none⟩ k _ hk).trans h
      refine ⟨(hL1.trans (KeepsL.grown hS0.1 hKm hKb)).setCell (i := 0) _ hZY, (hS1.trans (KeptS.grown hS0.1 hKm hKb (by unfold SBr; omega))).setCell (i := 0) _ (by unfold SBr; omega), key _ _ (grown_block hS0.1 hX1 (by omega)) (by omega), key _ _ (grown_block hS0.1 hY1 (by omega)) (by omega), ?_, ?_, ?_, ?_⟩
      · rw [show ((xs ++ [x]).map fun x => x.1 * cntO H o x.2).sum = (xs.map fun x => x.1 * cntO H o x.2).sum + cntO H o x.2 * x.1 by simp [Nat.mul_comm], hn3]
        exact (show Boxed Y (g + 1 + 1) 3 (.int .i64 ((satN (xs.map fun x => x.1 * cntO H o x.2).sum : Nat) : Int)) from hZY).set _
      · rw [show (!(xs ++ [x]).isEmpty) = true by simp]
        exact key _ _ (grown_block hS0.1 hN2 (by omega)) (by omega)
      · obtain ⟨M, hM, hk⟩ := hS0.2
        exact ⟨M, key _ _ hM (by omega), hk⟩
      · have h2 := grown_trans hGr1 hS0.1
        exact ⟨h2.os, h2.tape, h2.output, by simpa using h2.size, fun k hk hne => (heap_setCell_other Y ⟨g + 1 + 1, 0, none⟩ k _ (show k ≠ g + 1 + 1 by omega)).trans (h2.block k hk hne)⟩
    case hdone =>
      rintro D xs X hD rfl ⟨hX, hY, hZ, hN1, hKn, hGr⟩ hmk
      have hCX := grown_block hGr HC.out hcm
      have hAX := HA.out.grown hGr hN
      have hXs : g + 6 ≤ D := by omega
      have HH := hid (show _ ∧ _ ∧ _ ∧ _ ∧ _ ∧ _ ∧ _ from ⟨hX, hY, hZ, hKn, hGr, hmk, hCX⟩)
      have hS0 : (fun Y => Below X.heap.size X Y) X.drew := ⟨rfl, rfl, rfl, Nat.le_refl _, fun _ _ => rfl⟩
      -- the end: the result lies in its box
      have FIN : ∀ (r : Nat) (Y : World) (tmps : Array Value), ((satN (cntO H o s) : Nat) : Int) = ((r : Nat) : Int) → tmps.getD 4 undef = .pointer (some ⟨g + 1 + 1, 0, none⟩) → Below X.heap.size X Y →
          bodyPostM Fence.wide n Try.prog Try.f50 (fun e w' => e = .returned (.int .i64 ((satN (cntO H o s) : Nat) : Int)) ∧ w.grownBy w' (some mb) ∧ KnAt w' mb H o) Exit.ret
            { tmps := tmps, defers := [{ target := .collected D, args := #[] }, { target := .fn (.func 68) #[.pointer (some ⟨g + 1 + 1, 0, none⟩), .pointer (some ⟨g, 0, none⟩), .pointer (some ⟨g + 1, 0, none⟩)], args := #[] }] } (Y.setCell ⟨g + 1 + 1, 0, none⟩ (.int .i64 ((r : Nat) : Int))) := by
        intro r Y tmps hr hp hbY
        have k1 : ∀ (k : Nat) (o : Obj), X.heap[k]? = some o → k ≠ g + 1 + 1 → k ≠ D → ((Y.setCell ⟨g + 1 + 1, 0, none⟩ (.int .i64 ((r : Nat) : Int))).putObj D (.deferred none)).heap[k]? = some o := fun k o h hk hk2 =>
          (World.putObj_heap_other hk2).trans ((heap_setCell_other Y ⟨g + 1 + 1, 0, none⟩ k _ hk).trans (heap_below hbY h (heap_lt h)))
        have hDY : (Y.setCell ⟨g + 1 + 1, 0, none⟩ (.int .i64 ((r : Nat) : Int))).heap[D]? = some (.deferred (some [])) := (heap_setCell_other Y ⟨g + 1 + 1, 0, none⟩ D _ (show D ≠ g + 1 + 1 by omega)).trans (heap_below hbY hmk (heap_lt hmk))
        obtain ⟨M, hM, hMk⟩ := hKn
        have hM1 := k1 _ _ hM (by omega) (by omega)
        have hZ1 : Boxed ((Y.setCell ⟨g + 1 + 1, 0, none⟩ (.int .i64 ((r : Nat) : Int))).putObj D (.deferred none)) (g + 1 + 1) 3 (.int .i64 ((r : Nat) : Int)) :=
          (World.putObj_heap_other (show g + 1 + 1 ≠ D by omega)).trans ((show Boxed Y (g + 1 + 1) 3 _ from heap_below hbY hZ (heap_lt hZ)).set _)
        have hsz : Y.heap.size ≤ ((Y.setCell ⟨g + 1 + 1, 0, none⟩ (.int .i64 ((r : Nat) : Int))).putObj D (.deferred none)).heap.size := by simp [World.putObj]
        have hgr : w.grownBy ((Y.setCell ⟨g + 1 + 1, 0, none⟩ (.int .i64 ((r : Nat) : Int))).putObj D (.deferred none)) (some mb) := by
          have h2 := grown_trans hGr (below_grown (r := some mb) hbY)
          exact ⟨h2.os, h2.tape, h2.output, Nat.le_trans h2.size hsz, fun k hk hne => (World.putObj_heap_other (by omega)).trans ((heap_setCell_other Y ⟨g + 1 + 1, 0, none⟩ k _ (show k ≠ g + 1 + 1 by omega)).trans (h2.block k hk hne))⟩
        refine ⟨by simp, .inl ⟨D, _, rfl, run_takeDeferred hDY, ?_⟩⟩
        refine ⟨by simp, .inr ⟨(fun h => by cases h), .func 68, _, 68, #[.pointer (some ⟨g + 1 + 1, 0, none⟩), .pointer (some ⟨g, 0, none⟩), .pointer (some ⟨g + 1, 0, none⟩)], rfl, ?_, fun _ _ => trivial, ?_⟩⟩
        · have eg := enters_of Try.func68 (by kernel_rfl) rfl
          simp [invoke, go_sem, eg]
        refine (count1_d (n - 1) cp mb g (g + 1) (g + 1 + 1) H fv cv o s _ M ((r : Nat) : Int) (k1 _ _ hX (by omega) (by omega)) (k1 _ _ hY (by omega) (by omega)) hZ1 (k1 _ _ hCX (by omega) (by have := heap_lt hCX; omega)) hM1).mono ?_
        rintro e u w' ⟨rfl, ⟨v, rfl⟩, rfl⟩
        have hZ2 : Boxed (((Y.setCell ⟨g + 1 + 1, 0, none⟩ (.int .i64 ((r : Nat) : Int))).putObj D (.deferred none)).drew.putObj mb (mapO (putS M s ((r : Nat) : Int)))) (g + 1 + 1) 3 (.int .i64 ((r : Nat) : Int)) := (World.putObj_heap_other (show g + 1 + 1 ≠ mb by omega)).trans hZ1
        refine ⟨_, results_cell rfl hp (fun _ => rfl) hZ2, by rw [hr], ⟨hgr.os, hgr.tape, hgr.output, by simpa [World.putObj] using hgr.size, fun k hk hne => (World.putObj_heap_other (by simpa using hne)).trans (hgr.block k hk hne)⟩, _, MapAt.put (L := M) hM1, fun p hp => ?_⟩
        rcases put_mem _ _ _ _ hp with h | rfl
        · exact hMk p h
        · exact hr.symm
      clear hX hY hZ hKn hGr hmk
      gi_upto_region 11 with fail
      cases hbz : brs H s with
      | cons x0 L0 =>
        have hd0 : dep s ≠ 0 := fun h => by rw [dep_zero hF h] at hbz; cases hbz
        have hcs := cntO_succ H o s hF hd0
        rw [← hcs] at HH
        rw [hbz] at hN1
        refine regD_in lets_wide (fun Y => Below X.heap.size X Y) (fun j => decide (j < 24)) (by kernel_rfl) (by kernel_rfl) ?_
        refine takeE (i := 0) (.bool true) (d := some 40) rfl (by kernel_rfl) (by kernel_rfl) (by kernel_rfl) (by kernel_rfl) (fun _ _ _ h => h) rfl (fun X hX => by exact exec_ldbool rfl rfl (heap_below hX hN1 (heap_lt hN1))) hS0 rfl ?_
        simp only [Act.put, List.setIfInBounds_toArray, List.set_cons_zero, List.set_cons_succ]
        refine takeE (i := 1) (.bool false) (d := some 41) rfl (by kernel_rfl) (by kernel_rfl) (by kernel_rfl) (by kernel_rfl) (fun _ _ _ h => h) rfl (fun X hX => by exact rfl) hS0 rfl ?_
        simp only [Act.put, List.setIfInBounds_toArray, List.set_cons_zero, List.set_cons_succ]
        refine takeE (i := 2) (.bool false) (d := some 42) rfl (by kernel_rfl) (by kernel_rfl) (by kernel_rfl) (by kernel_rfl) (fun _ _ _ h => h) rfl (fun X hX => by exact rfl) hS0 rfl ?_
        simp only [Act.put, List.setIfInBounds_toArray, List.set_cons_zero, List.set_cons_succ]
        refine takeU (i := 3) (d := some 43) rfl (by kernel_rfl) (by kernel_rfl) (by kernel_rfl) (by kernel_rfl) (fun _ _ _ h => h) (by rfl) hS0 rfl ?_
        simp only [Act.put, List.setIfInBounds_toArray, List.set_cons_zero, List.set_cons_succ]
        refine takeU (i := 4) (d := some 44) rfl (by kernel_rfl) (by kernel_rfl) (by kernel_rfl) (by kernel_rfl) (fun _ _ _ h => h) (by rfl) hS0 rfl ?_
        simp only [Act.put, List.setIfInBounds_toArray, List.set_cons_zero, List.set_cons_succ]
        refine takeU (i := 5) (d := some 45) rfl (by kernel_rfl) (by kernel_rfl) (by kernel_rfl) (by kernel_rfl) (fun _ _ _ h => h) (by rfl) hS0 rfl ?_
        simp only [Act.put, List.setIfInBounds_toArray, List.set_cons_zero, List.set_cons_succ]
        refine takeU (i := 6) (d := some 46) rfl (by kernel_rfl) (by kernel_rfl) (by kernel_rfl) (by kernel_rfl) (fun _ _ _ h => h) (by rfl) hS0 rfl ?_
        simp only [Act.put, List.setIfInBounds_toArray, List.set_cons_zero, List.set_cons_succ]
        refine takeU (i := 7) (d := some 47) rfl (by kernel_rfl) (by kernel_rfl) (by kernel_rfl) (by kernel_rfl) (fun _ _ _ h => h) (by rfl) hS0 rfl ?_
        simp only [Act.put, List.setIfInBounds_toArray, List.set_cons_zero, List.set_cons_succ]
        refine takeU (i := 8) (d := some 48) rfl (by kernel_rfl) (by kernel_rfl) (by kernel_rfl) (by kernel_rfl) (fun _ _ _ h => h) (by rfl) hS0 rfl ?_
        simp only [Act.put, List.setIfInBounds_toArray, List.set_cons_zero, List.set_cons_succ]
        refine takeU (i := 9) (d := some 49) rfl (by kernel_rfl) (by kernel_rfl) (by kernel_rfl) (by kernel_rfl) (fun _ _ _ h => h) (by rfl) hS0 rfl ?_
        simp only [Act.put, List.setIfInBounds_toArray, List.set_cons_zero, List.set_cons_succ]
        refine takeU (i := 10) (d := some 50) rfl (by kernel_rfl) (by kernel_rfl) (by kernel_rfl) (by kernel_rfl) (fun _ _ _ h => h) (by rfl) hS0 rfl ?_
        simp only [Act.put, List.setIfInBounds_toArray, List.set_cons_zero, List.set_cons_succ]
        refine takeU (i := 11) (d := some 51) rfl (by kernel_rfl) (by kernel_rfl) (by kernel_rfl) (by kernel_rfl) (fun _ _ _ h => h) (by rfl) hS0 rfl ?_
        simp only [Act.put, List.setIfInBounds_toArray, List.set_cons_zero, List.set_cons_succ]
        refine takeU (i := 12) (d := some 52) rfl (by kernel_rfl) (by kernel_rfl) (by kernel_rfl) (by kernel_rfl) (fun _ _ _ h => h) (by rfl) hS0 rfl ?_
        simp only [Act.put, List.setIfInBounds_toArray, List.set_cons_zero, List.set_cons_succ]
        refine takeU (i := 13) (d := some 53) rfl (by kernel_rfl) (by kernel_rfl) (by kernel_rfl) (by kernel_rfl) (fun _ _ _ h => h) (by rfl) hS0 rfl ?_
        simp only [Act.put, List.setIfInBounds_toArray, List.set_cons_zero, List.set_cons_succ]
        refine takeU (i := 14) (d := some 54) rfl (by kernel_rfl) (by kernel_rfl) (by kernel_rfl) (by kernel_rfl) (fun _ _ _ h => h) (by rfl) hS0 rfl ?_
        simp only [Act.put, List.setIfInBounds_toArray, List.set_cons_zero, List.set_cons_succ]
        refine takeU (i := 15) (d := some 55) rfl (by kernel_rfl) (by kernel_rfl) (by kernel_rfl) (by kernel_rfl) (fun _ _ _ h => h) (by rfl) hS0 rfl ?_
        simp only [Act.put, List.setIfInBounds_toArray, List.set_cons_zero, List.set_cons_succ]
        refine takeU (i := 16) (d := some 56) rfl (by kernel_rfl) (by kernel_rfl) (by kernel_rfl) (by kernel_rfl) (fun _ _ _ h => h) (by rfl) hS0 rfl ?_
        simp only [Act.put, List.setIfInBounds_toArray, List.set_cons_zero, List.set_cons_succ]
        refine takeU (i := 17) (d := some 57) rfl (by kernel_rfl) (by kernel_rfl) (by kernel_rfl) (by kernel_rfl) (fun _ _ _ h => h) (by rfl) hS0 rfl ?_
        simp only [Act.put, List.setIfInBounds_toArray, List.set_cons_zero, List.set_cons_succ]
        refine takeU (i := 18) (d := some 58) rfl (by kernel_rfl) (by kernel_rfl) (by kernel_rfl) (by kernel_rfl) (fun _ _ _ h => h) (by rfl) hS0 rfl ?_
        simp only [Act.put, List.setIfInBounds_toArray, List.set_cons_zero, List.set_cons_succ]
        refine takeU (i := 19) (d := some 59) rfl (by kernel_rfl) (by kernel_rfl) (by kernel_rfl) (by kernel_rfl) (fun _ _ _ h => h) (by rfl) hS0 rfl ?_
        simp only [Act.put, List.setIfInBounds_toArray, List.set_cons_zero, List.set_cons_succ]
        refine takeU (i := 20) (d := some 60) rfl (by kernel_rfl) (by kernel_rfl) (by kernel_rfl) (by kernel_rfl) (fun _ _ _ h => h) (by rfl) hS0 rfl ?_
        simp only [Act.put, List.setIfInBounds_toArray, List.set_cons_zero, List.set_cons_succ]
        refine takeU (i := 21) (d := some 61) rfl (by kernel_rfl) (by kernel_rfl) (by kernel_rfl) (by kernel_rfl) (fun _ _ _ h => h) (by rfl) hS0 rfl ?_
        simp only [Act.put, List.setIfInBounds_toArray, List.set_cons_zero, List.set_cons_succ]
        refine takeU (i := 22) (d := some 62) rfl (by kernel_rfl) (by kernel_rfl) (by kernel_rfl) (by kernel_rfl) (fun _ _ _ h => h) (by rfl) hS0 rfl ?_
        simp only [Act.put, List.setIfInBounds_toArray, List.set_cons_zero, List.set_cons_succ]
        refine takeE (i := 23) (.bool false) (d := some 63) rfl (by kernel_rfl) (by kernel_rfl) (by kernel_rfl) (by kernel_rfl) (fun _ _ _ h => h) rfl (fun X hX => by exact rfl) hS0 rfl ?_
        simp only [Act.put, List.setIfInBounds_toArray, List.set_cons_zero, List.set_cons_succ]
        refine doneD (by kernel_rfl) ?_ _
        refine OnlyNorm.normal ?_
        have hZ' : Boxed X.drew (g + 1 + 1) 3 (.int .i64 ((satN (cntO H o s) : Nat) : Int)) := HH.out.2.2.1
        have c4 := hZ'.cell
        have f4 := hZ'.frozen
        clear hZ' hN1 hcs
        obtain ⟨Y, hY⟩ : ∃ Y, X.drew = Y := ⟨_, rfl⟩
        rw [hY] at hS0 c4 f4 ⊢
        clear hY
        gi_wp2_with fail
        refine FIN (satN (cntO H o s)) Y _ rfl ?_ hS0
        rfl
      | nil =>
        have hd0 := cnt_leaf H s hbz hl0
        have hc0 := cntO_zero H o s hd0
        rw [hbz] at hN1 HH
        have hX1 := HH.out.1
        have hY1 := HH.out.2.1
        have hC1 := HH.out.2.2.2.2.2.2
        refine regD_in lets_wide (fun Y => Below X.heap.size X Y) (fun j => decide (j < 24)) (by kernel_rfl) (by kernel_rfl) ?_
        refine takeE (i := 0) (.bool false) (d := some 40) rfl (by kernel_rfl) (by kernel_rfl) (by kernel_rfl) (by kernel_rfl) (fun _ _ _ h => h) rfl (fun X hX => by exact exec_ldbool rfl rfl (heap_below hX hN1 (heap_lt hN1))) hS0 rfl ?_
        simp only [Act.put, List.setIfInBounds_toArray, List.set_cons_zero, List.set_cons_succ]
        refine takeE (i := 1) (.bool true) (d := some 41) rfl (by kernel_rfl) (by kernel_rfl) (by kernel_rfl) (by kernel_rfl) (fun _ _ _ h => h) rfl (fun X hX => by exact rfl) hS0 rfl ?_
        simp only [Act.put, List.setIfInBounds_toArray, List.set_cons_zero, List.set_cons_succ]
        refine takeE (i := 2) (.bool true) (d := some 42) rfl (by kernel_rfl) (by kernel_rfl) (by kernel_rfl) (by kernel_rfl) (fun _ _ _ h => h) rfl (fun X hX => by exact rfl) hS0 rfl ?_
        simp only [Act.put, List.setIfInBounds_toArray, List.set_cons_zero, List.set_cons_succ]
        refine takeG (i := 3) (.pointer (some ⟨cp, 0, none⟩)) (d := some 43) rfl (by kernel_rfl) (by kernel_rfl) (by kernel_rfl) (by kernel_rfl) (fun _ _ _ h => h) (by rfl) (fun X hX => by exact exec_ldptr rfl rfl (heap_below hX hX1 (heap_lt hX1))) hS0 rfl ?_
        simp only [Act.put, List.setIfInBounds_toArray, List.set_cons_zero, List.set_cons_succ]
        refine takeG (i := 4) (.pointer (some ⟨cp, 0, none⟩)) (d := some 44) rfl (by kernel_rfl) (by kernel_rfl) (by kernel_rfl) (by kernel_rfl) (fun _ _ _ h => h) (by rfl) (fun X hX => by exact exec_nil rfl rfl) hS0 rfl ?_
        simp only [Act.put, List.setIfInBounds_toArray, List.set_cons_zero, List.set_cons_succ]
        refine takeG (i := 5) (.pointer (some ⟨cp, 8, none⟩)) (d := some 45) rfl (by kernel_rfl) (by kernel_rfl) (by kernel_rfl) (by kernel_rfl) (fun _ _ _ h => h) (by rfl) (fun X hX => by exact exec_fld rfl rfl (.inr (.inl ⟨rfl, rfl⟩))) hS0 rfl ?_
        simp only [Act.put, List.setIfInBounds_toArray, List.set_cons_zero, List.set_cons_succ]
        refine takeG (i := 6) (.int .i64 o) (d := some 46) rfl (by kernel_rfl) (by kernel_rfl) (by kernel_rfl) (by kernel_rfl) (fun _ _ _ h => h) (by rfl) (fun X hX => by exact exec_ldcell rfl rfl (cell_of_row X cp 8 _ _ _ (heap_below hX hC1 (heap_lt hC1)))) hS0 rfl ?_
        simp only [Act.put, List.setIfInBounds_toArray, List.set_cons_zero, List.set_cons_succ]
        refine takeG (i := 7) (.bool (decide (o < 0))) (d := some 47) rfl (by kernel_rfl) (by kernel_rfl) (by kernel_rfl) (by kernel_rfl) (fun _ _ _ h => h) (by rfl) (fun X hX => by exact rfl) hS0 rfl ?_
        simp only [Act.put, List.setIfInBounds_toArray, List.set_cons_zero, List.set_cons_succ]
        refine takeG (i := 8) (.bool (decide (o < 0))) (d := some 48) rfl (by kernel_rfl) (by kernel_rfl) (by kernel_rfl) (by kernel_rfl) (fun _ _ _ h => h) (by rfl) (fun X hX => by exact rfl) hS0 rfl ?_
        simp only [Act.put, List.setIfInBounds_toArray, List.set_cons_zero, List.set_cons_succ]
        by_cases hneg : o < 0
        · have hok : okO H o s = true := by unfold okO; simp [hneg]
          rw [hok, if_pos rfl] at hc0
          simp only [decide_eq_true hneg]
          refine takeU (i := 9) (d := some 49) rfl (by kernel_rfl) (by kernel_rfl) (by kernel_rfl) (by kernel_rfl) (fun _ _ _ h => h) (by rfl) hS0 rfl ?_
          simp only [Act.put, List.setIfInBounds_toArray, List.set_cons_zero, List.set_cons_succ]
          refine takeU (i := 10) (d := some 50) rfl (by kernel_rfl) (by kernel_rfl) (by kernel_rfl) (by kernel_rfl) (fun _ _ _ h => h) (by rfl) hS0 rfl ?_
          simp only [Act.put, List.setIfInBounds_toArray, List.set_cons_zero, List.set_cons_succ]
          refine takeU (i := 11) (d := some 51) rfl (by kernel_rfl) (by kernel_rfl) (by kernel_rfl) (by kernel_rfl) (fun _ _ _ h => h) (by rfl) hS0 rfl ?_
          simp only [Act.put, List.setIfInBounds_toArray, List.set_cons_zero, List.set_cons_succ]
          refine takeU (i := 12) (d := some 52) rfl (by kernel_rfl) (by kernel_rfl) (by kernel_rfl) (by kernel_rfl) (fun _ _ _ h => h) (by rfl) hS0 rfl ?_
          simp only [Act.put, List.setIfInBounds_toArray, List.set_cons_zero, List.set_cons_succ]
          refine takeU (i := 13) (d := some 53) rfl (by kernel_rfl) (by kernel_rfl) (by kernel_rfl) (by kernel_rfl) (fun _ _ _ h => h) (by rfl) hS0 rfl ?_
          simp only [Act.put, List.setIfInBounds_toArray, List.set_cons_zero, List.set_cons_succ]
          refine takeU (i := 14) (d := some 54) rfl (by kernel_rfl) (by kernel_rfl) (by kernel_rfl) (by kernel_rfl) (fun _ _ _ h => h) (by rfl) hS0 rfl ?_
          simp only [Act.put, List.setIfInBounds_toArray, List.set_cons_zero, List.set_cons_succ]
          refine takeU (i := 15) (d := some 55) rfl (by kernel_rfl) (by kernel_rfl) (by kernel_rfl) (by kernel_rfl) (fun _ _ _ h => h) (by rfl) hS0 rfl ?_
          simp only [Act.put, List.setIfInBounds_toArray, List.set_cons_zero, List.set_cons_succ]
          refine takeU (i := 16) (d := some 56) rfl (by kernel_rfl) (by kernel_rfl) (by kernel_rfl) (by kernel_rfl) (fun _ _ _ h => h) (by rfl) hS0 rfl ?_
          simp only [Act.put, List.setIfInBounds_toArray, List.set_cons_zero, List.set_cons_succ]
          refine takeU (i := 17) (d := some 57) rfl (by kernel_rfl) (by kernel_rfl) (by kernel_rfl) (by kernel_rfl) (fun _ _ _ h => h) (by rfl) hS0 rfl ?_
          simp only [Act.put, List.setIfInBounds_toArray, List.set_cons_zero, List.set_cons_succ]
          refine takeU (i := 18) (d := some 58) rfl (by kernel_rfl) (by kernel_rfl) (by kernel_rfl) (by kernel_rfl) (fun _ _ _ h => h) (by rfl) hS0 rfl ?_
          simp only [Act.put, List.setIfInBounds_toArray, List.set_cons_zero, List.set_cons_succ]
          refine takeU (i := 19) (d := some 59) rfl (by kernel_rfl) (by kernel_rfl) (by kernel_rfl) (by kernel_rfl) (fun _ _ _ h => h) (by rfl) hS0 rfl ?_
          simp only [Act.put, List.setIfInBounds_toArray, List.set_cons_zero, List.set_cons_succ]
          refine takeU (i := 20) (d := some 60) rfl (by kernel_rfl) (by kernel_rfl) (by kernel_rfl) (by kernel_rfl) (fun _ _ _ h => h) (by rfl) hS0 rfl ?_
          simp only [Act.put, List.setIfInBounds_toArray, List.set_cons_zero, List.set_cons_succ]
          refine takeU (i := 21) (d := some 61) rfl (by kernel_rfl) (by kernel_rfl) (by kernel_rfl) (by kernel_rfl) (fun _ _ _ h => h) (by rfl) hS0 rfl ?_
          simp only [Act.put, List.setIfInBounds_toArray, List.set_cons_zero, List.set_cons_succ]
          refine takeG (i := 22) (.bool true) (d := some 62) rfl (by kernel_rfl) (by kernel_rfl) (by kernel_rfl) (by kernel_rfl) (fun _ _ _ h => h) (by rfl) (fun X hX => by exact rfl) hS0 rfl ?_
          simp only [Act.put, List.setIfInBounds_toArray, List.set_cons_zero, List.set_cons_succ]
          refine takeE (i := 23) (.bool true) (d := some 63) rfl (by kernel_rfl) (by kernel_rfl) (by kernel_rfl) (by kernel_rfl) (fun _ _ _ h => h) rfl (fun X hX => by exact rfl) hS0 rfl ?_
          simp only [Act.put, List.setIfInBounds_toArray, List.set_cons_zero, List.set_cons_succ]
          refine doneD (by kernel_rfl) ?_ _
          refine OnlyNorm.normal ?_
          have hZ' : Boxed X.drew (g + 1 + 1) 3 (.int .i64 ((satN 0 : Nat) : Int)) := HH.out.2.2.1
          have c4 := hZ'.cell
          have f4 := hZ'.frozen
          have HC0 := hid hc0
          clear hZ' hN1 hX1 hY1 hC1 hc0
          obtain ⟨Y, hY⟩ : ∃ Y, X.drew = Y := ⟨_, rfl⟩
          rw [hY] at hS0 c4 f4 ⊢
          clear hY
          gi_wp2_with fail
          refine FIN 1 Y _ (by rw [HC0.out]; rfl) ?_ hS0
          rfl
        · simp only [decide_eq_false hneg]
          refine takeG (i := 9) (.pointer (some ⟨cp, 0, none⟩)) (d := some 49) rfl (by kernel_rfl) (by kernel_rfl) (by kernel_rfl) (by kernel_rfl) (fun _ _ _ h => h) (by rfl) (fun X hX => by exact exec_ldptr rfl rfl (heap_below hX hX1 (heap_lt hX1))) hS0 rfl ?_
          simp only [Act.put, List.setIfInBounds_toArray, List.set_cons_zero, List.set_cons_succ]
          refine takeG (i := 10) (.pointer (some ⟨cp, 0, none⟩)) (d := some 50) rfl (by kernel_rfl) (by kernel_rfl) (by kernel_rfl) (by kernel_rfl) (fun _ _ _ h => h) (by rfl) (fun X hX => by exact exec_nil rfl rfl) hS0 rfl ?_
          simp only [Act.put, List.setIfInBounds_toArray, List.set_cons_zero, List.set_cons_succ]
          refine takeG (i := 11) (.pointer (some ⟨cp, 8, none⟩)) (d := some 51) rfl (by kernel_rfl) (by kernel_rfl) (by kernel_rfl) (by kernel_rfl) (fun _ _ _ h => h) (by rfl) (fun X hX => by exact exec_fld rfl rfl (.inr (.inl ⟨rfl, rfl⟩))) hS0 rfl ?_
          simp only [Act.put, List.setIfInBounds_toArray, List.set_cons_zero, List.set_cons_succ]
          refine takeG (i := 12) (.int .i64 o) (d := some 52) rfl (by kernel_rfl) (by kernel_rfl) (by kernel_rfl) (by kernel_rfl) (fun _ _ _ h => h) (by rfl) (fun X hX => by exact exec_ldcell rfl rfl (cell_of_row X cp 8 _ _ _ (heap_below hX hC1 (heap_lt hC1)))) hS0 rfl ?_
          simp only [Act.put, List.setIfInBounds_toArray, List.set_cons_zero, List.set_cons_succ]
          refine takeG (i := 13) (encS s) (d := some 53) rfl (by kernel_rfl) (by kernel_rfl) (by kernel_rfl) (by kernel_rfl) (fun _ _ _ h => h) (by rfl) (fun X hX => by exact exec_ldstate rfl rfl (heap_below hX hY1 (heap_lt hY1))) hS0 rfl ?_
          simp only [Act.put, List.setIfInBounds_toArray, List.set_cons_zero, List.set_cons_succ]
          refine takeG (i := 14) (.pointer (some ⟨cp, 0, none⟩)) (d := some 54) rfl (by kernel_rfl) (by kernel_rfl) (by kernel_rfl) (by kernel_rfl) (fun _ _ _ h => h) (by rfl) (fun X hX => by exact exec_ldptr rfl rfl (heap_below hX hX1 (heap_lt hX1))) hS0 rfl ?_
          simp only [Act.put, List.setIfInBounds_toArray, List.set_cons_zero, List.set_cons_succ]
          refine takeG (i := 15) (.pointer (some ⟨cp, 0, none⟩)) (d := some 55) rfl (by kernel_rfl) (by kernel_rfl) (by kernel_rfl) (by kernel_rfl) (fun _ _ _ h => h) (by rfl) (fun X hX => by exact exec_nil rfl rfl) hS0 rfl ?_
          simp only [Act.put, List.setIfInBounds_toArray, List.set_cons_zero, List.set_cons_succ]
          refine takeG (i := 16) (.pointer (some ⟨cp, 0, none⟩)) (d := some 56) rfl (by kernel_rfl) (by kernel_rfl) (by kernel_rfl) (by kernel_rfl) (fun _ _ _ h => h) (by rfl) (fun X hX => by exact exec_fld rfl rfl (.inl ⟨rfl, rfl⟩)) hS0 rfl ?_
          simp only [Act.put, List.setIfInBounds_toArray, List.set_cons_zero, List.set_cons_succ]
          refine takeG (i := 17) (.agg (handA H fv cv)) (d := some 57) rfl (by kernel_rfl) (by kernel_rfl) (by kernel_rfl) (by kernel_rfl) (fun _ _ _ h => h) (by rfl) (fun X hX => by exact exec_ldctr rfl rfl (heap_below hX hC1 (heap_lt hC1))) hS0 rfl ?_
          simp only [Act.put, List.setIfInBounds_toArray, List.set_cons_zero, List.set_cons_succ]
          refine takeG (i := 18) (encS s) (d := some 58) rfl (by kernel_rfl) (by kernel_rfl) (by kernel_rfl) (by kernel_rfl) (fun _ _ _ h => h) (by rfl) (fun X hX => by exact exec_nilS rfl rfl) hS0 rfl ?_
          simp only [Act.put, List.setIfInBounds_toArray, List.set_cons_zero, List.set_cons_succ]
          refine takeG (i := 19) (encS s) (d := some 59) rfl (by kernel_rfl) (by kernel_rfl) (by kernel_rfl) (by kernel_rfl) (fun _ _ _ h => h) (by rfl) (fun X hX => by exact rfl) hS0 rfl ?_
          simp only [Act.put, List.setIfInBounds_toArray, List.set_cons_zero, List.set_cons_succ]
          refine stepG 20 (by kernel_rfl) rfl (by rfl) (fun K hK => ?_)
          refine wp_enterD 60 rfl (inv_out _ _ _ _ rfl rfl rfl _) ((outcome_c H fv cv s hF _).mono ?_)
          rintro e Y ⟨rfl, hbY⟩
          refine ⟨_, rfl, hK _ _ (fun _ => hS0.trans hbY) ?_⟩
          clear hK K
          have hS0 : Below X.heap.size X Y := hS0.trans hbY
          clear hbY
          simp only [Act.put, List.setIfInBounds_toArray, List.set_cons_zero, List.set_cons_succ]
          refine takeG (i := 21) (.bool (o == outN H s)) (d := some 61) rfl (by kernel_rfl) (by kernel_rfl) (by kernel_rfl) (by kernel_rfl) (fun _ _ _ h => h) (by rfl) (fun X hX => by exact rfl) hS0 rfl ?_
          simp only [Act.put, List.setIfInBounds_toArray, List.set_cons_zero, List.set_cons_succ]
          refine takeG (i := 22) (.bool (o == outN H s)) (d := some 62) rfl (by kernel_rfl) (by kernel_rfl) (by kernel_rfl) (by kernel_rfl) (fun _ _ _ h => h) (by rfl) (fun X hX => by exact rfl) hS0 rfl ?_
          simp only [Act.put, List.setIfInBounds_toArray, List.set_cons_zero, List.set_cons_succ]
          refine takeE (i := 23) (.bool (o == outN H s)) (d := some 63) rfl (by kernel_rfl) (by kernel_rfl) (by kernel_rfl) (by kernel_rfl) (fun _ _ _ h => h) rfl (fun X hX => by exact rfl) hS0 rfl ?_
          simp only [Act.put, List.setIfInBounds_toArray, List.set_cons_zero, List.set_cons_succ]
          refine doneD (by kernel_rfl) ?_ _
          refine OnlyNorm.normal ?_
          have hZ' : Boxed Y (g + 1 + 1) 3 (.int .i64 ((satN 0 : Nat) : Int)) := heap_below hS0 HH.out.2.2.1 (heap_lt HH.out.2.2.1)
          have c4 := hZ'.cell
          have f4 := hZ'.frozen
          clear hZ' hN1 hX1 hY1 hC1
          by_cases he : o = outN H s
          · have hok : okO H o s = true := by unfold okO; simp [he]
            rw [hok, if_pos rfl] at hc0
            simp only [show (o == outN H s) = true by simp [he]]
            have HC0 := hid hc0
            clear he hc0
            gi_wp2_with fail
            refine FIN 1 Y _ (by rw [HC0.out]; rfl) ?_ hS0
            rfl
          · have hok : okO H o s = false := by unfold okO; simp [he]; omega
            rw [hok] at hc0
            simp only [show (o == outN H s) = false by simp [he]]
            have HC0 := hid hc0
            clear he hc0
            gi_wp2_with fail
            refine FIN (satN 0) Y _ (by rw [HC0.out]; rfl) ?_ hS0
            rfl
    case hstop =>
      intro D c xs X hD hx
      exact hx.elim
/-- A counter counts. -/
theorem count_c (N : Nat) (H : HV) (fv cv : Value) (o : Int) (cp mb : Nat) (hN : N ≤ mb) : ∀ (d : Nat) (s : St), dep s = d → Fit H s → Last H s → ∀ w, HandAt w N H fv cv → w.heap[cp]? = some (.cells (ctrA H fv cv o mb) 110 (0, 0)) → KnAt w mb H o →
    Calls Try.prog 50 #[.pointer (some ⟨cp, 0, none⟩), encS s] w fun e w' => e = .returned (.int .i64 ((satN (cntO H o s) : Nat) : Int)) ∧ w.grownBy w' (some mb) ∧ KnAt w' mb H o
  | 0, s, hd, hF, hl, w, hA, hC, hK => callsIn_wide.1 (count_step 24 (by omega) N H fv cv o cp mb hN s hF hl (fun s' h => by omega) w hA hC hK)
  | d + 1, s, hd, hF, hl, w, hA, hC, hK => callsIn_wide.1 (count_step 24 (by omega) N H fv cv o cp mb hN s hF hl (fun s' h => count_c N H fv cv o cp mb hN d s' (by omega)) w hA hC hK)
end Go.Proofs.Ytmjnelkeiogdcaa
