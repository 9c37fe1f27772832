/- Walks of package hand: counted, Courses. -/
import Derived.Test.YtmjnelkeiogdcaaJF
namespace Go.Proofs.Ytmjnelkeiogdcaa
open Go Go.RowKit Go.Shelf
set_option maxRecDepth 100000

theorem exec_ctr {ev : Operand → Value} {o : Oper} {x y z : Operand} {mb : Nat} {W : World} {H : HV} {fv cv : Value} {oo : Int} (ho : o.op = .build 110 #[(0, x), (1, y), (2, z)]) (hx : ev x = .agg (handA H fv cv)) (hy : ev y = .int .i64 oo) (hz : ev z = .map (some mb)) :
    (execOp ev o).run Try.prog W = .ok (.value (.agg (ctrA H fv cv oo mb))) W := by
  have h := run_build (P := Try.prog) W 110 #[(0, .agg (handA H fv cv)), (1, .int .i64 oo), (2, .map (some mb))] (ctrA H fv cv oo mb) (by kernel_rfl)
  simp [execOp, ho, hx, hy, hz]
  rw [h]
  rfl
set_option maxHeartbeats 400000 in
theorem counted_in (n : Nat) (hn : 24 ≤ n) (N : Nat) (H : HV) (hO : OkHand H) (fv cv : Value) (o : Int) (w : World) (hA : HandAt w N H fv cv) :
    CallsIn Fence.wide n Try.prog 49 #[.agg (handA H fv cv), .int .i64 o] w fun e w' => Below w.heap.size w w' ∧
      ((cntO H (-1) (beginS H) ≤ 1000000000000000 ∧ ∃ cp mb, w.heap.size ≤ cp ∧ w.heap.size ≤ mb ∧ e = .returned (.tuple #[.pointer (some ⟨cp, 0, none⟩), encS (beginS H), .int .i64 0]) ∧ w'.heap[cp]? = some (.cells (ctrA H fv cv o mb) 110 (0, 0)) ∧ KnAt w' mb H o) ∨
       (¬ cntO H (-1) (beginS H) ≤ 1000000000000000 ∧ e = .returned (.tuple #[.pointer none, .nilIface, .int .i64 8]))) := by
  have hx := heap_alloc_new w (.cells (handA H fv cv) 26)
  have hb : Below w.heap.size w (w.alloc (.cells (handA H fv cv) 26)) := (Below.refl _ _).alloc (Nat.le_refl _) _
  have hA1 := hA.below (hb.mono hA.le)
  have HX := hid hx
  have HB := hid hb
  have HA := hid hA1
  have HBG := hid (fun W hW => begin_c N H fv cv hO.ok W hW)
  have hmm := @run_makeMap Try.prog
  have hs0 : Fit H (beginS H) := begin_fit H hO.ok
  have hl0 := hO.last
  obtain ⟨s0, hs0'⟩ : ∃ s0, beginS H = s0 := ⟨_, rfl⟩
  rw [hs0'] at hs0 hl0 HBG ⊢
  clear hx hb hA1
  refine callsIn_of_wp Try.func49 rfl trivial ?_ rfl
  simp only [Try.ntmps49, List.size_toArray, List.length_cons, List.length_nil, Nat.reduceAdd, Nat.reduceSub, Array.replicate_succ, Array.replicate_zero, List.push_toArray, List.append_toArray, List.nil_append, List.cons_append]
  gi_upto_region 2 with (first
    | (refine wpListIn_value lets_wide rfl (by intro c hc; cases hc) (.agg (handA H fv cv)) (exec_ldhand rfl rfl HX.out) ?_)
    | (gi_at_call 41; refine (callsIn_wide.2 (HBG.out _ HA.out)).mono ?_; rintro e w3 ⟨rfl, hb3⟩; have HX := hid (heap_below hb3 HX.out (heap_lt HX.out)); have HB := hid (HB.out.trans (hb3.mono HB.out.size)); have HA := hid (HA.out.below (hb3.mono HA.out.le)); clear hb3 HBG))
  have hm1 : ∀ oo, KnAt ((w3.alloc (.map #[] 0)).alloc (.cells (ctrA H fv cv oo w3.heap.size) 110)) w3.heap.size H oo := fun oo => ⟨[], alloc2_first w3 _ _, by simp⟩
  have hc1 := fun oo => alloc2_second w3 (.map #[] 0) (.cells (ctrA H fv cv oo w3.heap.size) 110)
  have hb1 := fun oo => below2 w3 (.map #[] 0) (.cells (ctrA H fv cv oo w3.heap.size) 110)
  have hA3 := HA.out
  have hsz3 : w.heap.size < w3.heap.size := heap_lt HX.out
  have HCN := hid (count_c N H fv cv (-1) (w3.heap.size + 1) w3.heap.size (HA.out.le) (dep s0) s0 rfl hs0 hl0 _ (hA3.below ((hb1 (-1)).mono hA3.le)) (hc1 (-1)) (hm1 (-1)))
  have HX3 := hid (heap_below (hb1 (-1)) HX.out (heap_lt HX.out))
  have HB3 := hid (HB.out.trans ((hb1 (-1)).mono HB.out.size))
  have HA3 := hid (hA3.below ((hb1 (-1)).mono hA3.le))
  have hsz : ((w3.alloc (.map #[] 0)).alloc (.cells (ctrA H fv cv (-1) w3.heap.size) 110)).heap.size = w3.heap.size + 2 := by simp
  have HSZ := hid hsz
  clear hm1 hc1 hb1 hA3 hsz
  gi_upto_region 3 with (first
    | (refine wpListIn_value lets_wide rfl (by intro c hc; cases hc) (.agg (handA H fv cv)) (exec_ldhand rfl rfl (heap_below ((Below.refl _ w3).alloc (Nat.le_refl _) _) HX.out (heap_lt HX.out))) ?_)
    | (refine wpListIn_value lets_wide rfl (by intro c hc; cases hc) (.agg (handA H fv cv)) (exec_ldhand rfl rfl HX.out) ?_)
    | (refine wpListIn_value lets_wide rfl (by intro c hc; cases hc) (.agg (ctrA H fv cv (-1) w3.heap.size)) (exec_ctr rfl rfl rfl rfl) ?_))
  by_cases hle : cntO H (-1) s0 ≤ 1000000000000000
  · have hz : decide ((1000000000000000 : Int) < ((satN (cntO H (-1) s0) : Nat) : Int)) = false := decide_eq_false (by have := (satN_small (cntO H (-1) s0)).2 hle; omega)
    have HLE := hid hle
    clear hle
    gi_wp2_with (first
      | (gi_at_call 50; refine (callsIn_wide.2 HCN.out).mono ?_; rintro e w5 ⟨rfl, hg5, -⟩; have HX5 := hid (grown_block hg5 HX3.out (by omega)); have HB5 := hid (HB3.out.trans (grownB hg5 (by rw [HSZ.out]; omega) (by omega))); have hs5 : w3.heap.size + 2 ≤ w5.heap.size := by { have := hg5.size; rw [HSZ.out] at this; exact this })
      | (refine wpListIn_value lets_wide rfl (by intro c hc; cases hc) (.agg (handA H fv cv)) (exec_ldhand rfl rfl HX5.out) ?_)
      | (refine wpListIn_value lets_wide rfl (by intro c hc; cases hc) (.agg (ctrA H fv cv o w5.heap.size)) (exec_ctr rfl rfl rfl rfl) ?_))
    go_ret3
    refine ⟨HB5.out.trans ((below2 w5 _ _).mono (by omega)), .inl ⟨HLE.out, w5.heap.size + 1, w5.heap.size, by omega, by omega, rfl, alloc2_second w5 _ _, [], alloc2_first w5 _ _, by simp⟩⟩
  · have hz : decide ((1000000000000000 : Int) < ((satN (cntO H (-1) s0) : Nat) : Int)) = true := decide_eq_true (Classical.byContradiction fun hh => hle ((satN_small (cntO H (-1) s0)).1 (by omega)))
    have HLE := hid hle
    clear hle
    gi_wp2_with (gi_at_call 50; refine (callsIn_wide.2 HCN.out).mono ?_; rintro e w5 ⟨rfl, hg5, -⟩; have HB5 := hid (HB3.out.trans (grownB hg5 (by rw [HSZ.out]; omega) (by omega))))
    go_ret3
    exact ⟨HB5.out, .inr ⟨HLE.out, rfl⟩⟩
end Go.Proofs.Ytmjnelkeiogdcaa
