/- Walks of package hand: counted, Courses. -/
import Derived.Test.YtmjnelkeiogdcaaJF
set_option linter.unusedSimpArgs false
set_option linter.unusedVariables false
namespace Go.Proofs.Ytmjnelkeiogdcaa
open Go Go.RowKit Go.Shelf
set_option maxRecDepth 100000

theorem exec_ctr {ev : Operand → Value} {o : Oper} {x y z : Operand} {mb : Nat} {W : World} {H : HV} {fv cv : Value} {oo : Int} (ho : o.op = .build 110 #[(0, x), (1, y), (2, z)]) (hx : ev x = .agg (handA H fv cv)) (hy : ev y = .int .i64 oo) (hz : ev z = .map (some mb)) :
    (execOp ev o).run Try.prog W = .ok (.value (.agg (ctrA H fv cv oo mb))) W := by
  have h := run_build (P := Try.prog) W 110 #[(0, .agg (handA H fv cv)), (1, .int .i64 oo), (2, .map (some mb))] (ctrA H fv cv oo mb) (by kernel_rfl)
  simp [execOp, ho, hx, hy, hz]
  rw [h]
  rfl
set_option maxHeartbeats 400000 in
theorem counted_in (n : Nat) (hn : 24 ≤ n) (N : Nat) (H : HV) (hO : OkHand H) (fv cv : Value) (o : Int) (w : World) (hA : HandAt w N H fv cv) :
    CallsIn Fence.wide n Try.prog 49 #[.agg (handA H fv cv), .int .i64 o] w fun e w' => Below w.heap.size w w' ∧
      ((cntO H (-1) (beginS H) ≤ 1000000000000000 ∧ ∃ cp mb, w.heap.size ≤ cp ∧ w.heap.size ≤ mb ∧ e = .returned (.tuple #[.pointer (some ⟨cp, 0, none⟩), encS (beginS H), .int .i64 0]) ∧ w'.heap[cp]? = some (.cells (ctrA H fv cv o mb) 110 (0, 0)) ∧ KnAt w' mb H o) ∨
       (¬ cntO H (-1) (beginS H) ≤ 1000000000000000 ∧ e = .returned (.tuple #[.pointer none, .nilIface, .int .i64 8]))) := by
  have hx := heap_alloc_new w (.cells (handA H fv cv) 26)
  have hb : Below w.heap.size w (w.alloc (.cells (handA H fv cv) 26)) := (Below.refl _ _).alloc (Nat.le_refl _) _
  have hA1 := hA.below (hb.mono hA.le)
  have HX := hid hx
  have HB := hid hb
  have HA := hid hA1
  have HBG := hid (fun W hW => begin_c N H fv cv hO.ok W hW)
  have hmm := @run_makeMap Try.prog
  have hs0 : Fit H (beginS H) := begin_fit H hO.ok
  have hl0 := hO.last
  obtain ⟨s0, hs0'⟩ : ∃ s0, beginS H = s0 := ⟨_, rfl⟩
  rw [hs0'] at hs0 hl0 HBG ⊢
  clear hx hb hA1
  refine callsIn_of_wp Try.func49 rfl trivial ?_ rfl
  simp only [Try.ntmps49, List.size_toArray, List.length_cons, List.length_nil, Nat.reduceAdd, Nat.reduceSub, Array.replicate_succ, Array.replicate_zero, List.push_toArray, List.append_toArray, List.nil_append, List.cons_append]
  gi_upto_region 2 with (first
    | (refine wpListIn_value lets_wide rfl (by intro c hc; cases hc) (.agg (handA H fv cv)) (exec_ldhand rfl rfl HX.out) ?_)
    | (gi_at_call 41; refine (callsIn_wide.2 (HBG.out _ HA.out)).mono ?_; rintro e w3 ⟨rfl, hb3⟩; have HX := hid (heap_below hb3 HX.out (heap_lt HX.out)); have HB := hid (HB.out.trans (hb3.mono HB.out.size)); have HA := hid (HA.out.below (hb3.mono HA.out.le)); clear hb3 HBG))
  have hm1 : ∀ oo, KnAt ((w3.alloc (.map #[] 0)).alloc (.cells (ctrA H fv cv oo w3.heap.size) 110)) w3.heap.size H oo := fun oo => ⟨[], alloc2_first w3 _ _, by simp⟩
  have hc1 := fun oo => alloc2_second w3 (.map #[] 0) (.cells (ctrA H fv cv oo w3.heap.size) 110)
  have hb1 := fun oo => below2 w3 (.map #[] 0) (.cells (ctrA H fv cv oo w3.heap.size) 110)
  have hA3 := HA.out
  have hsz3 : w.heap.size < w3.heap.size := heap_lt HX.out
  have HCN := hid (count_c N H fv cv (-1) (w3.heap.size + 1) w3.heap.size (HA.out.le) (dep s0) s0 rfl hs0 hl0 _ (hA3.below ((hb1 (-1)).mono hA3.le)) (hc1 (-1)) (hm1 (-1)))
  have HX3 := hid (heap_below (hb1 (-1)) HX.out (heap_lt HX.out))
  have HB3 := hid (HB.out.trans ((hb1 (-1)).mono HB.out.size))
  have HA3 := hid (hA3.below ((hb1 (-1)).mono hA3.le))
  have hsz : ((w3.alloc (.map #[] 0)).alloc (.cells (ctrA H fv cv (-1) w3.heap.size) 110)).heap.size = w3.heap.size + 2 := by simp
  have HSZ := hid hsz
  clear hm1 hc1 hb1 hA3 hsz
  gi_upto_region 3 with (first
    | (refine wpListIn_value lets_wide rfl (by intro c hc; cases hc) (.agg (handA H fv cv)) (exec_ldhand rfl rfl (heap_below ((Below.refl _ w3).alloc (Nat.le_refl _) _) HX.out (heap_lt HX.out))) ?_)
    | (refine wpListIn_value lets_wide rfl (by intro c hc; cases hc) (.agg (handA H fv cv)) (exec_ldhand rfl rfl HX.out) ?_)
    | (refine wpListIn_value lets_wide rfl (by intro c hc; cases hc) (.agg (ctrA H fv cv (-1) w3.heap.size)) (exec_ctr rfl rfl rfl rfl) ?_))
  by_cases hle : cntO H (-1) s0 ≤ 1000000000000000
  · have hz : decide ((1000000000000000 : Int) < ((satN (cntO H (-1) s0) : Nat) : Int)) = false := decide_eq_false (by have := (satN_small (cntO H (-1) s0)).2 hle; omega)
    have HLE := hid hle
    clear hle
    gi_wp2_with (first
      | (gi_at_call 50; refine (callsIn_wide.2 HCN.out).mono ?_; rintro e w5 ⟨rfl, hg5, -⟩; have HX5 := hid (grown_block hg5 HX3.out (by omega)); have HB5 := hid (HB3.out.trans (grownB hg5 (by rw [HSZ.out]; omega) (by omega))); have hs5 : w3.heap.size + 2 ≤ w5.heap.size := by { have := hg5.size; rw [HSZ.out] at this; exact this })
      | (refine wpListIn_value lets_wide rfl (by intro c hc; cases hc) (.agg (handA H fv cv)) (exec_ldhand rfl rfl HX5.out) ?_)
      | (refine wpListIn_value lets_wide rfl (by intro c hc; cases hc) (.agg (ctrA H fv cv o w5.heap.size)) (exec_ctr rfl rfl rfl rfl) ?_))
    go_ret3
    refine ⟨HB5.out.trans ((below2 w5 _ _).mono (by omega)), .inl ⟨HLE.out, w5.heap.size + 1, w5.heap.size, by omega, by omega, rfl, alloc2_second w5 _ _, [], alloc2_first w5 _ _, by simp⟩⟩
  · have hz : decide ((1000000000000000 : Int) < ((satN (cntO H (-1) s0) : Nat) : Int)) = true := decide_eq_true (Classical.byContradiction fun hh => hle ((satN_small (cntO H (-1) s0)).1 (by omega)))
    have HLE := hid hle
    clear hle
    gi_wp2_with (gi_at_call 50; refine (callsIn_wide.2 HCN.out).mono ?_; rintro e w5 ⟨rfl, hg5, -⟩; have HB5 := hid (HB3.out.trans (grownB hg5 (by rw [HSZ.out]; omega) (by omega))))
    go_ret3
    exact ⟨HB5.out, .inr ⟨HLE.out, rfl⟩⟩
end Go.Proofs.Ytmjnelkeiogdcaa
/- Walks of package hand: Courses. -/
namespace Go.Proofs.Ytmjnelkeiogdcaa
open Go Go.RowKit Go.Shelf
set_option maxRecDepth 100000

theorem ok_any (H : HV) : okO H (-1) = anyS := by
  funext t
  simp [okO, anyS]
theorem cntO_le (H : HV) (o : Int) (s : St) : cntO H o s ≤ cntO H (-1) s := by
  unfold cntO cnt
  rw [crs_filter, ok_any]
  exact List.length_filter_le _ _
theorem counted_yes (N : Nat) (H : HV) (hO : OkHand H) (fv cv : Value) (o : Int) (hc : cntO H (-1) (beginS H) ≤ 1000000000000000) (w : World) (hA : HandAt w N H fv cv) :
    Calls Try.prog 49 #[.agg (handA H fv cv), .int .i64 o] w fun e w' => ∃ cp mb, e = .returned (.tuple #[.pointer (some ⟨cp, 0, none⟩), encS (beginS H), .int .i64 0]) ∧ w.heap.size ≤ cp ∧ w.heap.size ≤ mb ∧ w'.heap[cp]? = some (.cells (ctrA H fv cv o mb) 110 (0, 0)) ∧ KnAt w' mb H o ∧ Below w.heap.size w w' :=
  (callsIn_wide.1 (counted_in 24 (by omega) N H hO fv cv o w hA)).mono (by
    rintro e w' ⟨hb, (⟨-, cp, mb, h1, h2, rfl, h3, h4⟩ | ⟨hno, -⟩)⟩
    · exact ⟨cp, mb, rfl, h1, h2, h3, h4, hb⟩
    · exact absurd hc hno)
theorem counted_no (N : Nat) (H : HV) (hO : OkHand H) (fv cv : Value) (o : Int) (hc : ¬ cntO H (-1) (beginS H) ≤ 1000000000000000) (w : World) (hA : HandAt w N H fv cv) :
    Calls Try.prog 49 #[.agg (handA H fv cv), .int .i64 o] w fun e w' => e = .returned (.tuple #[.pointer none, .nilIface, .int .i64 8]) ∧ Below w.heap.size w w' :=
  (callsIn_wide.1 (counted_in 24 (by omega) N H hO fv cv o w hA)).mono (by
    rintro e w' ⟨hb, (⟨hyes, -⟩ | ⟨-, rfl⟩)⟩
    · exact absurd hyes hc
    · exact ⟨rfl, hb⟩)
/-- What Courses answers to a valid hand. -/
def crsR (H : HV) (o : Int) : Int × Int := if 0 ≤ o ∧ o < ((outsN H : Nat) : Int) then (if cntO H (-1) (beginS H) ≤ 1000000000000000 then (((cntO H o (beginS H) : Nat) : Int), 0) else (0, 8)) else (0, 3)
set_option maxHeartbeats 1000000 in
theorem Courses_yes (H : HV) (hV : Val H) (fv cv : Value) (o : Int) (ho : -9000000000000000000 ≤ o ∧ o ≤ 9223372036854775807) (N : Nat) (w : World) (hR : RawAt w N (rawOf H) fv cv) :
    Calls Try.prog 20 #[.agg (handA H fv cv), .int .i64 o] w fun e w' => e = .returned (.tuple #[.int .i64 (crsR H o).1, .int .i64 (crsR H o).2]) ∧ Below w.heap.size w w' := by
  have hx := heap_alloc_new w (.cells (handA H fv cv) 26)
  have hb : Below w.heap.size w (w.alloc (.cells (handA H fv cv) 26)) := (Below.refl _ _).alloc (Nat.le_refl _) _
  have HX := hid hx
  have HB := hid hb
  have hR1 := hR.below (hb.mono hR.le)
  have HCK := hid (check_yes H hV fv cv N _ hR1)
  have HR := hid hR1
  have HBG := hid (fun W hW => begin_c N H fv cv hV.hand.ok W hW)
  have HCY := hid (fun hc W hW => counted_yes N H hV.hand fv cv o hc W hW)
  have HCD := hid (fun hc W hW => counted_no N H hV.hand fv cv o hc W hW)
  have hl := hV.hand.last
  have hF := begin_fit H hV.hand.ok
  have hle := cntO_le H o (beginS H)
  have hoL := outs_le H hV.hand.ok
  have hN := hR.le
  unfold crsR
  obtain ⟨s0, hs0⟩ : ∃ s0, beginS H = s0 := ⟨_, rfl⟩
  rw [hs0] at hl hF hle HBG HCY HCD ⊢
  obtain ⟨m, hm⟩ : ∃ m, outsN H = m := ⟨_, rfl⟩
  rw [hm] at hoL HBG ⊢
  have HCN := hid (fun cp mb hmb W h1 h2 h3 => count_c N H fv cv o cp mb hmb (dep s0) s0 rfl hF hl W h1 h2 h3)
  clear hx hb hR hR1 hV hl hF hs0
  have hm1 : IntKind.i64.wrap (((m : Nat) : Int) - 1) = ((m : Nat) : Int) - 1 := IntWalk.i64_in _ (by omega)
  by_cases hr : 0 ≤ o ∧ o < ((m : Nat) : Int)
  · rw [if_pos hr]
    have hw : (decide (0 ≤ o) && decide (o ≤ ((m : Nat) : Int) - 1)) = true := by simp; omega
    by_cases hc : cntO H (-1) s0 ≤ 1000000000000000
    · rw [if_pos hc]
      have hid0 : satN (cntO H o s0) = cntO H o s0 := satN_id _ (by omega)
      rw [hid0] at HCN
      have HCY := hid (HCY.out hc)
      obtain ⟨cn, hcn⟩ : ∃ cn, cntO H o s0 = cn := ⟨_, rfl⟩
      rw [hcn] at HCN ⊢
      clear hc hr hcn hid0 hle HCD
      go_enter Try.func20, Try.ntmps20
      go_wp2_with (first
        | (refine wpList_value rfl (by intro c hc; cases hc) (.agg (handA H fv cv)) (exec_ldhand rfl rfl HX.out) ?_)
        | (go_at_call 26; refine HCK.out.mono ?_; rintro e w2 ⟨rfl, hb2⟩; have HX := hid (heap_below hb2 HX.out (heap_lt HX.out)); have HB := hid (HB.out.trans (hb2.mono HB.out.size)); have HR := hid (HR.out.below (hb2.mono HR.out.le)); clear hb2 HCK)
        | (go_at_call 41; refine (HBG.out _ (HandAt.of HR.out)).mono ?_; rintro e w3 ⟨rfl, hb3⟩; have HX := hid (heap_below hb3 HX.out (heap_lt HX.out)); have HB := hid (HB.out.trans (hb3.mono HB.out.size)); have HR := hid (HR.out.below (hb3.mono HR.out.le)); clear hb3 HBG)
        | (go_at_call 48; refine (within_c _ _ _ _).mono ?_; rintro e w4 ⟨rfl, rfl⟩; rw [hw])
        | (go_at_call 49; refine (HCY.out _ (HandAt.of HR.out)).mono ?_; rintro e w5 ⟨cp, mb, rfl, hcp, hmb, hcc, hkk, hb5⟩)
        | (go_at_call 50; refine (HCN.out cp mb (Nat.le_trans HR.out.le hmb) _ ((HandAt.of HR.out).below (hb5.mono HR.out.le)) hcc hkk).mono ?_; rintro e w6 ⟨rfl, hg6, -⟩))
      go_ret2
      exact ⟨rfl, (HB.out.trans (hb5.mono HB.out.size)).trans (grownB hg6 (Nat.le_trans HB.out.size hb5.size) (Nat.le_trans HB.out.size hmb))⟩
    · rw [if_neg hc]
      have HCD := hid (HCD.out hc)
      clear hc hr hle HCY HCN
      go_enter Try.func20, Try.ntmps20
      go_wp2_with (first
        | (refine wpList_value rfl (by intro c hc; cases hc) (.agg (handA H fv cv)) (exec_ldhand rfl rfl HX.out) ?_)
        | (go_at_call 26; refine HCK.out.mono ?_; rintro e w2 ⟨rfl, hb2⟩; have HX := hid (heap_below hb2 HX.out (heap_lt HX.out)); have HB := hid (HB.out.trans (hb2.mono HB.out.size)); have HR := hid (HR.out.below (hb2.mono HR.out.le)); clear hb2 HCK)
        | (go_at_call 41; refine (HBG.out _ (HandAt.of HR.out)).mono ?_; rintro e w3 ⟨rfl, hb3⟩; have HX := hid (heap_below hb3 HX.out (heap_lt HX.out)); have HB := hid (HB.out.trans (hb3.mono HB.out.size)); have HR := hid (HR.out.below (hb3.mono HR.out.le)); clear hb3 HBG)
        | (go_at_call 48; refine (within_c _ _ _ _).mono ?_; rintro e w4 ⟨rfl, rfl⟩; rw [hw])
        | (go_at_call 49; refine (HCD.out _ (HandAt.of HR.out)).mono ?_; rintro e w5 ⟨rfl, hb5⟩))
      go_ret2
      exact ⟨rfl, HB.out.trans (hb5.mono HB.out.size)⟩
  · rw [if_neg hr]
    have hw : (decide (0 ≤ o) && decide (o ≤ ((m : Nat) : Int) - 1)) = false := by simp; omega
    clear hr hle HCY HCN HCD
    go_enter Try.func20, Try.ntmps20
    go_wp2_with (first
        | (refine wpList_value rfl (by intro c hc; cases hc) (.agg (handA H fv cv)) (exec_ldhand rfl rfl HX.out) ?_)
        | (go_at_call 26; refine HCK.out.mono ?_; rintro e w2 ⟨rfl, hb2⟩; have HX := hid (heap_below hb2 HX.out (heap_lt HX.out)); have HB := hid (HB.out.trans (hb2.mono HB.out.size)); have HR := hid (HR.out.below (hb2.mono HR.out.le)); clear hb2 HCK)
        | (go_at_call 41; refine (HBG.out _ (HandAt.of HR.out)).mono ?_; rintro e w3 ⟨rfl, hb3⟩; have HX := hid (heap_below hb3 HX.out (heap_lt HX.out)); have HB := hid (HB.out.trans (hb3.mono HB.out.size)); have HR := hid (HR.out.below (hb3.mono HR.out.le)); clear hb3 HBG)
        | (go_at_call 48; refine (within_c _ _ _ _).mono ?_; rintro e w4 ⟨rfl, rfl⟩; rw [hw]))
    go_ret2
    exact ⟨rfl, HB.out⟩
theorem Courses_no (R : RH) (h0 : okR R = false) (fv cv : Value) (o : Int) (N : Nat) (w : World) (hR : RawAt w N R fv cv) (hf : R.faces.length ≤ 1000) (hc : R.cards.length ≤ 1000) :
    Calls Try.prog 20 #[.agg (handR R fv cv), .int .i64 o] w fun e w' => e = .returned (.tuple #[.int .i64 0, .int .i64 2]) ∧ Below w.heap.size w w' := by
  have hb : Below w.heap.size w (w.alloc (.cells (handR R fv cv) 26)) := (Below.refl _ _).alloc (Nat.le_refl _) _
  have hR1 := hR.below (hb.mono hR.le)
  have HB := hid hb
  have HC := hid (check_no R h0 fv cv N _ hR1 hf hc)
  simp only [handR, handV] at HB HC ⊢
  clear hb hR hR1 hf hc h0
  go_enter Try.func20, Try.ntmps20
  go_wp2_with (go_at_call 26; refine HC.out.mono ?_; rintro e w2 ⟨rfl, hb2⟩)
  go_ret2
  exact ⟨rfl, HB.out.trans (hb2.mono HB.out.size)⟩
theorem Weights_no (R : RH) (h0 : okR R = false) (fv cv : Value) (N : Nat) (w : World) (hR : RawAt w N R fv cv) (hf : R.faces.length ≤ 1000) (hc : R.cards.length ≤ 1000) :
    CallsIn Fence.wide 24 Try.prog 14 #[.agg (handR R fv cv)] w fun e w' => e = .returned (.tuple #[.slice none 0 0, .int .i64 2]) ∧ Below w.heap.size w w' := by
  have hy := alloc3_1 w (.cells (handR R fv cv) 26) (.cells #[.slice none 0 0] 24) (.cells #[.int .i64 0] 29)
  have hz := alloc3_2 w (.cells (handR R fv cv) 26) (.cells #[.slice none 0 0] 24) (.cells #[.int .i64 0] 29)
  have hb := below3 w (.cells (handR R fv cv) 26) (.cells #[.slice none 0 0] 24) (.cells #[.int .i64 0] 29)
  have hR1 := hR.below (hb.mono hR.le)
  have HY := hid hy
  have HZ := hid hz
  have HB := hid hb
  have HC := hid (check_no R h0 fv cv N _ hR1 hf hc)
  simp only [handR, handV] at HB HC HY HZ ⊢
  clear hy hz hb hR hR1 hf hc h0
  refine callsIn_of_wp_marks Try.func14 rfl trivial ?_ rfl
  simp only [Try.ntmps14, List.size_toArray, List.length_cons, List.length_nil, Nat.reduceAdd, Nat.reduceSub, Array.replicate_succ, Array.replicate_zero, List.push_toArray, List.append_toArray, List.nil_append, List.cons_append]
  gi_wp2_with (gi_at_call 26; refine (callsIn_wide.2 HC.out).mono ?_; rintro e w2 ⟨rfl, hb2⟩; have b1 := heap_below hb2 HY.out (heap_lt HY.out); have b2 := heap_below hb2 HZ.out (heap_lt HZ.out); have c1 := Boxed.cell b1; have f1 := Boxed.frozen b1; have b3 : Boxed (w2.setCell ⟨w.heap.size + 1, 0, none⟩ (.slice none 0 0)) (w.heap.size + 1 + 1) 29 (.int .i64 0) := (heap_setCell_other w2 ⟨w.heap.size + 1, 0, none⟩ (w.heap.size + 1 + 1) _ (show w.heap.size + 1 + 1 ≠ w.heap.size + 1 by omega)).trans b2; have c2 := b3.cell; have f2 := b3.frozen; have B1 := hid b1; have B3 := hid b3; clear b1 b2 b3)
  refine ⟨_, results_22 rfl rfl rfl (fun _ => rfl) (fun _ => rfl) ((heap_setCell_other _ ⟨w.heap.size + 1 + 1, 0, none⟩ (w.heap.size + 1) _ (show w.heap.size + 1 ≠ w.heap.size + 1 + 1 by omega)).trans (Boxed.set _ B1.out)) (Boxed.set _ B3.out), rfl, ?_⟩
  exact ((HB.out.trans (hb2.mono HB.out.size)).setCell (p := ⟨w.heap.size + 1, 0, none⟩) (show w.heap.size ≤ w.heap.size + 1 by omega) _).setCell (p := ⟨w.heap.size + 1 + 1, 0, none⟩) (show w.heap.size ≤ w.heap.size + 1 + 1 by omega) _
end Go.Proofs.Ytmjnelkeiogdcaa
