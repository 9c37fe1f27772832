/- Courses, Nth at any outcome. -/
import Derived.Test.YtmjnelkeiogdcaaMG
set_option linter.unusedSimpArgs false
set_option linter.unusedVariables false
namespace Go.Proofs.Ytmjnelkeiogdcaa
open Go Go.RowKit Go.Shelf
set_option maxRecDepth 100000

set_option maxHeartbeats 1000000 in
theorem Courses_any (H : HV) (hV : Val H) (fv cv : Value) (o : Int) (N : Nat) (w : World) (hR : RawAt w N (rawOf H) fv cv) :
    Calls Try.prog 20 #[.agg (handA H fv cv), .int .i64 o] w fun e w' => e = .returned (.tuple #[.int .i64 (crsR H o).1, .int .i64 (crsR H o).2]) ∧ Below w.heap.size w w' := by
  have hx := heap_alloc_new w (.cells (handA H fv cv) 26)
  have hb : Below w.heap.size w (w.alloc (.cells (handA H fv cv) 26)) := (Below.refl _ _).alloc (Nat.le_refl _) _
  have HX := hid hx
  have HB := hid hb
  have hR1 := hR.below (hb.mono hR.le)
  have HCK := hid (check_yes H hV fv cv N _ hR1)
  have HR := hid hR1
  have HBG := hid (fun W hW => begin_c N H fv cv hV.hand.ok W hW)
  have HCY := hid (fun hc W hW => counted_yes N H hV.hand fv cv o hc W hW)
  have HCD := hid (fun hc W hW => counted_no N H hV.hand fv cv o hc W hW)
  have hl := hV.hand.last
  have hF := begin_fit H hV.hand.ok
  have hle := cntO_le H o (beginS H)
  have hoL := outs_le H hV.hand.ok
  have hN := hR.le
  unfold crsR
  obtain ⟨s0, hs0⟩ : ∃ s0, beginS H = s0 := ⟨_, rfl⟩
  rw [hs0] at hl hF hle HBG HCY HCD ⊢
  obtain ⟨m, hm⟩ : ∃ m, outsN H = m := ⟨_, rfl⟩
  rw [hm] at hoL HBG ⊢
  have HCN := hid (fun cp mb hmb W h1 h2 h3 => count_c N H fv cv o cp mb hmb (dep s0) s0 rfl hF hl W h1 h2 h3)
  clear hx hb hR hR1 hV hl hF hs0
  have hm1 : IntKind.i64.wrap (((m : Nat) : Int) - 1) = ((m : Nat) : Int) - 1 := IntWalk.i64_in _ (by omega)
  by_cases hr : 0 ≤ o ∧ o < ((m : Nat) : Int)
  · rw [if_pos hr]
    have hw : (decide (0 ≤ o) && decide (o ≤ ((m : Nat) : Int) - 1)) = true := by simp; omega
    by_cases hc : cntO H (-1) s0 ≤ 1000000000000000
    · rw [if_pos hc]
      have hid0 : satN (cntO H o s0) = cntO H o s0 := satN_id _ (by omega)
      rw [hid0] at HCN
      have HCY := hid (HCY.out hc)
      obtain ⟨cn, hcn⟩ : ∃ cn, cntO H o s0 = cn := ⟨_, rfl⟩
      rw [hcn] at HCN ⊢
      clear hc hr hcn hid0 hle HCD
      go_enter Try.func20, Try.ntmps20
      go_wp2_with (first
        | (refine wpList_value rfl (by intro c hc; cases hc) (.agg (handA H fv cv)) (exec_ldhand rfl rfl HX.out) ?_)
        | (go_at_call 26; refine HCK.out.mono ?_; rintro e w2 ⟨rfl, hb2⟩; have HX := hid (heap_below hb2 HX.out (heap_lt HX.out)); have HB := hid (HB.out.trans (hb2.mono HB.out.size)); have HR := hid (HR.out.below (hb2.mono HR.out.le)); clear hb2 HCK)
        | (go_at_call 41; refine (HBG.out _ (HandAt.of HR.out)).mono ?_; rintro e w3 ⟨rfl, hb3⟩; have HX := hid (heap_below hb3 HX.out (heap_lt HX.out)); have HB := hid (HB.out.trans (hb3.mono HB.out.size)); have HR := hid (HR.out.below (hb3.mono HR.out.le)); clear hb3 HBG)
        | (go_at_call 48; refine (within_c _ _ _ _).mono ?_; rintro e w4 ⟨rfl, rfl⟩; rw [hw])
        | (go_at_call 49; refine (HCY.out _ (HandAt.of HR.out)).mono ?_; rintro e w5 ⟨cp, mb, rfl, hcp, hmb, hcc, hkk, hb5⟩)
        | (go_at_call 50; refine (HCN.out cp mb (Nat.le_trans HR.out.le hmb) _ ((HandAt.of HR.out).below (hb5.mono HR.out.le)) hcc hkk).mono ?_; rintro e w6 ⟨rfl, hg6, -⟩))
      go_ret2
      exact ⟨rfl, (HB.out.trans (hb5.mono HB.out.size)).trans (grownB hg6 (Nat.le_trans HB.out.size hb5.size) (Nat.le_trans HB.out.size hmb))⟩
    · rw [if_neg hc]
      have HCD := hid (HCD.out hc)
      clear hc hr hle HCY HCN
      go_enter Try.func20, Try.ntmps20
      go_wp2_with (first
        | (refine wpList_value rfl (by intro c hc; cases hc) (.agg (handA H fv cv)) (exec_ldhand rfl rfl HX.out) ?_)
        | (go_at_call 26; refine HCK.out.mono ?_; rintro e w2 ⟨rfl, hb2⟩; have HX := hid (heap_below hb2 HX.out (heap_lt HX.out)); have HB := hid (HB.out.trans (hb2.mono HB.out.size)); have HR := hid (HR.out.below (hb2.mono HR.out.le)); clear hb2 HCK)
        | (go_at_call 41; refine (HBG.out _ (HandAt.of HR.out)).mono ?_; rintro e w3 ⟨rfl, hb3⟩; have HX := hid (heap_below hb3 HX.out (heap_lt HX.out)); have HB := hid (HB.out.trans (hb3.mono HB.out.size)); have HR := hid (HR.out.below (hb3.mono HR.out.le)); clear hb3 HBG)
        | (go_at_call 48; refine (within_c _ _ _ _).mono ?_; rintro e w4 ⟨rfl, rfl⟩; rw [hw])
        | (go_at_call 49; refine (HCD.out _ (HandAt.of HR.out)).mono ?_; rintro e w5 ⟨rfl, hb5⟩))
      go_ret2
      exact ⟨rfl, HB.out.trans (hb5.mono HB.out.size)⟩
  · rw [if_neg hr]
    have hw : (decide (0 ≤ o) && decide (o ≤ ((m : Nat) : Int) - 1)) = false := by simp; omega
    clear hr hle HCY HCN HCD
    go_enter Try.func20, Try.ntmps20
    go_wp2_with (first
        | (refine wpList_value rfl (by intro c hc; cases hc) (.agg (handA H fv cv)) (exec_ldhand rfl rfl HX.out) ?_)
        | (go_at_call 26; refine HCK.out.mono ?_; rintro e w2 ⟨rfl, hb2⟩; have HX := hid (heap_below hb2 HX.out (heap_lt HX.out)); have HB := hid (HB.out.trans (hb2.mono HB.out.size)); have HR := hid (HR.out.below (hb2.mono HR.out.le)); clear hb2 HCK)
        | (go_at_call 41; refine (HBG.out _ (HandAt.of HR.out)).mono ?_; rintro e w3 ⟨rfl, hb3⟩; have HX := hid (heap_below hb3 HX.out (heap_lt HX.out)); have HB := hid (HB.out.trans (hb3.mono HB.out.size)); have HR := hid (HR.out.below (hb3.mono HR.out.le)); clear hb3 HBG)
        | (go_at_call 48; refine (within_c _ _ _ _).mono ?_; rintro e w4 ⟨rfl, rfl⟩; rw [hw]))
    go_ret2
    exact ⟨rfl, HB.out⟩
theorem Nth_any (H : HV) (hV : Val H) (fv cv : Value) (o num : Int) (he : (crsR H o).2 ≠ 0) (N : Nat) (w : World) (hR : RawAt w N (rawOf H) fv cv) :
    CallsIn Fence.wide 24 Try.prog 21 #[.agg (handA H fv cv), .int .i64 o, .int .i64 num] w fun e w' => e = .returned (.tuple #[.slice none 0 0, .int .i64 (crsR H o).2]) ∧ Below w.heap.size w w' := by
  have hx := alloc2_first w (.cells (handA H fv cv) 26) (.cells #[.int .i64 num] 3)
  have hb := below2 w (.cells (handA H fv cv) 26) (.cells #[.int .i64 num] 3)
  have HX := hid hx
  have HB := hid hb
  have hR1 := hR.below (hb.mono hR.le)
  have HCS := hid (Courses_any H hV fv cv o N _ hR1)
  have h2 := crsR_two H o
  obtain ⟨c1, hc1⟩ : ∃ c1, (crsR H o).1 = c1 := ⟨_, rfl⟩
  obtain ⟨c2, hc2⟩ : ∃ c2, (crsR H o).2 = c2 := ⟨_, rfl⟩
  rw [hc1, hc2] at HCS
  rw [hc2] at he h2 ⊢
  clear hx hb hR1 hR hV hc1 hc2
  refine callsIn_of_wp_marks Try.func21 rfl trivial ?_ rfl
  simp only [Try.ntmps21, List.size_toArray, List.length_cons, List.length_nil, Nat.reduceAdd, Nat.reduceSub, Array.replicate_succ, Array.replicate_zero, List.push_toArray, List.append_toArray, List.nil_append, List.cons_append]
  rcases h2 with rfl | rfl | rfl
  · exact absurd rfl he
  all_goals
    gi_wp2_with (first
      | (refine wpListIn_value lets_wide rfl (by intro c hc; cases hc) (.agg (handA H fv cv)) (exec_ldhand rfl rfl HX.out) ?_)
      | (gi_at_call 20; refine (callsIn_wide.2 HCS.out).mono ?_; rintro e w2 ⟨rfl, hb2⟩))
    exact ⟨_, results_t2 rfl, rfl, HB.out.trans (hb2.mono HB.out.size)⟩
end Go.Proofs.Ytmjnelkeiogdcaa
