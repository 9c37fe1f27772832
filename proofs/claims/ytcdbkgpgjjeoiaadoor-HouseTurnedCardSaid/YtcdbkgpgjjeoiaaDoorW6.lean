/- slices.AppendSeq, slices.Collect over the iterator 'wrong'; Wrong. -/
import Derived.Test.YtcdbkgpgjjeoiaaDoorW5
namespace Go.Proofs.YtcdbkgpgjjeoiaaDoor
open Go Go.RowKit Go.Shelf
set_option maxRecDepth 100000
attribute [local go_sem] Oper.semAt_some

set_option maxHeartbeats 1000000 in
theorem appSeq_in (F : Nat → Nat) (hF : ∀ i, i < 16 → F i < 16) (n : Nat) (hn : 3 ≤ n) (Bs : Nat) (w : World) (L : Laid w) (hg : w.heap[Bs]? = some (.cells (irow 16 (cst F)) 88 (0, 0))) :
    CallsIn Fence.wide n Tryd.prog 98 #[.slice none 0 0, .func (.func 99) #[] #[.pointer (some ⟨Bs, 0, none⟩)]] w fun e w' => ∃ v, e = .returned v ∧ Ints w' w.heap.size v (wl F 16) ∧ Below w.heap.size w w' := by
  have h1 : 1 ≤ n := by omega
  obtain ⟨i0, hi, hz0, hz1, hz2⟩ := info_parts infoInt
  have hBs := heap_lt hg
  refine callsIn_of_wp_marks Tryd.func98 rfl trivial ?_ rfl
  simp only [Tryd.ntmps98, List.size_toArray, List.length_cons, List.length_nil, Nat.reduceAdd, Nat.reduceSub, Array.replicate_succ, Array.replicate_zero, List.push_toArray, List.append_toArray, List.nil_append, List.cons_append]
  gi_wp2
  have bO := Boxed.new w 25 (.slice none 0 0)
  have hB0 : Below w.heap.size w (w.alloc (.cells #[.slice none 0 0] 25)) := (Below.refl _ w).alloc (Nat.le_refl _) _
  refine wpIn_rangeFunc_ownG rfl h1 (gf := 99) (lb := #[.pointer (some ⟨Bs, 0, none⟩)]) rfl trivial (enters_of Tryd.func99 (by kernel_rfl) rfl)
    (wrong_stops F hF (n - 1) (by omega) Bs w.heap.size hBs L.size _ (L.below hB0) hB0.size (heap_below hB0 hg hBs)) belowK_t (belowK_b (by simp)) (Below.refl _ _) (fun _ => rfl)
    (fun pre W => (∃ v, Boxed W w.heap.size 25 v ∧ W.ownsRow w.heap.size 3 1 v pre.length (pre.map (Value.int .i64)) ∧ True) ∧ Below w.heap.size w W)
    (fun _ _ _ => False)
    (OwnFrom.and (Own.from (holdsRow_own w.heap.size w.heap.size 25 3 1 (fun pre : List Int => pre.length) (fun pre => pre.map (Value.int .i64)) (fun _ _ => True)) _) (ownFrom_below (Nat.le_refl _) (by simp)))
    (fun _ _ _ _ _ hs _ _ => hs)
    ⟨⟨_, bO, World.ownsRow_nil _ _ _ _, trivial⟩, hB0⟩
    (fun x => { tmps := #[.slice none 0 0, .func (.func 99) #[] #[.pointer (some ⟨Bs, 0, none⟩)], .pointer (some ⟨w.heap.size, 0, none⟩), undef, .slice none 0 0, .int .i64 x, .func (.func 99) #[] #[.pointer (some ⟨Bs, 0, none⟩)], .int .i64 x, undef, undef, undef, undef, undef], defers := [] }) ?assign ?body ?done ?stop
  case assign =>
    intro l x W K hK
    gi_wp2
    exact hK
  case body =>
    rintro l pre x W ⟨⟨v, hv, hrow, _⟩, hB⟩ hlt
    have hc := hv.cell
    gi_wp2_with (gi_at_builtin; refine wpListIn_append_own _ rfl _ _ 25 rfl w.heap.size 3 i0 (.int .i64 0) 1 8 Tryd.underlying25 hi hz0 hz1 hz2 rfl (by decide) _ _ _ rfl (hrow.alloc _) ⟨W.heap.size, 0, none⟩ 1 1 [.int .i64 x] rfl rfl (cell_one_new _ _ _) (by simp [Value.oneCell']) (by unfold maxLen; omega) (by omega) (by have := hB.size; simp; omega) ?_; intro v' w1 hown' hgrow _; obtain ⟨g', cap', rfl⟩ := ownsRow_succ hown'; obtain ⟨hv1, hv2, hr2, hk2, hb2⟩ := hv.appended (by decide) hrow hB.size (Nat.le_refl _) hown' hgrow; have hc1 := hv1.cell; have hf1 := hv1.frozen)
    exact ⟨hk2.from _, hb2, ⟨_, hv2, by simpa using hr2, trivial⟩, hB.trans hb2⟩
  case done =>
    rintro D ys W hD rfl ⟨⟨v, hv, hrow, _⟩, hB⟩ hK
    have hc := hv.cell
    gi_wp2
    refine ⟨by simp, .inl ⟨_, _, rfl, run_takeDeferred hK, ?_⟩⟩
    exact ⟨_, results_tmp rfl _ _ _, v, rfl, ownsRow_putObj hrow _ hK rfl, hB.trans (belowK_b (w := w) (Nat.le_refl _) W D _ _ (by simp at hD; omega) hK rfl rfl)⟩
  case stop =>
    rintro D c pre W _ _ h _
    exact h.elim

set_option maxHeartbeats 400000 in
theorem collect_c (F : Nat → Nat) (hF : ∀ i, i < 16 → F i < 16) (Bs : Nat) (w : World) (L : Laid w) (hg : w.heap[Bs]? = some (.cells (irow 16 (cst F)) 88 (0, 0))) :
    Calls Tryd.prog 85 #[.func (.func 99) #[] #[.pointer (some ⟨Bs, 0, none⟩)]] w fun e w' => ∃ v, e = .returned v ∧ Ints w' w.heap.size v (wl F 16) ∧ Below w.heap.size w w' := by
  have H := hid (callsIn_wide.1 (appSeq_in F hF 5 (by omega) Bs w L hg))
  clear L hg hF
  go_enter Tryd.func85, Tryd.ntmps85
  go_wp2_with (go_at_call 98; refine H.out.mono ?_; rintro e w' ⟨v, rfl, hi, hb⟩)
  go_ret
  exact ⟨v, rfl, hi, hb⟩

theorem wrong_c (S : Nat → Int) (w : World) : Calls Tryd.prog 86 #[.agg (irow 16 S)] w fun e w' => e = .returned (.func (.func 99) #[] #[.pointer (some ⟨w.heap.size, 0, none⟩)]) ∧ w' = w.alloc (.cells (irow 16 S) 88) := by
  go_enter Tryd.func86, Tryd.ntmps86
  go_wp2
  go_ret
  exact ⟨rfl, rfl⟩

set_option maxHeartbeats 400000 in
theorem Wrong_yes (F : Nat → Nat) (hF : ∀ i, i < 16 → F i < 16) (w : World) (L : Laid w) :
    Calls Tryd.prog 63 #[.agg (irow 16 (cst F))] w fun e w' => ∃ v, e = .returned (.tuple #[v, .int .i64 0]) ∧ Ints w' w.heap.size v (wl F 16) ∧ Below w.heap.size w w' := by
  have h0 := heap_alloc_new w (.cells (irow 16 (cst F)) 88)
  have hb : Below w.heap.size w (w.alloc (.cells (irow 16 (cst F)) 88)) := (Below.refl _ _).alloc (Nat.le_refl _) _
  have HV := hid (validS_yes (cst F) (fun i hi => ⟨by simp, by have := hF i hi; simp; omega⟩) w.heap.size 16 _ _ h0)
  have h1 := heap_alloc_new (w.alloc (.cells (irow 16 (cst F)) 88)) (.cells (irow 16 (cst F)) 88)
  have hb1 := hb.alloc hb.size (.cells (irow 16 (cst F)) 88)
  have HC := hid (collect_c F hF (w.alloc (.cells (irow 16 (cst F)) 88)).heap.size _ (L.below hb1) h1)
  rw [World.size_alloc] at HC
  clear hF L h1
  go_enter Tryd.func63, Tryd.ntmps63
  go_wp2_with (first | (go_at_call 68; refine HV.out.mono ?_; rintro e w' ⟨rfl, rfl⟩) | (refine ldrow arrShield _ rfl rfl _ rfl _ _ h0 ?_) | (go_at_call 86; refine (wrong_c _ _).mono ?_; rintro e w' ⟨rfl, rfl⟩) | (go_at_call 85; refine HC.out.mono ?_; rintro e w2 ⟨v, rfl, hi, hb2⟩))
  go_ret2
  exact ⟨v, rfl, hi.mono (by simp; omega), hb1.trans (hb2.mono (by simp; omega))⟩

set_option maxHeartbeats 400000 in
theorem Wrong_no (S : Nat → Int) (hS : ¬ ∀ i, i < 16 → Fig (S i)) (w : World) :
    Calls Tryd.prog 63 #[.agg (irow 16 S)] w fun e w' => e = .returned (.tuple #[.slice none 0 0, .int .i64 2]) ∧ Below w.heap.size w w' := by
  have h0 := heap_alloc_new w (.cells (irow 16 S) 88)
  have hb : Below w.heap.size w (w.alloc (.cells (irow 16 S) 88)) := (Below.refl _ _).alloc (Nat.le_refl _) _
  have HV := hid (validS_no S hS w.heap.size 16 _ _ h0)
  clear hS
  go_enter Tryd.func63, Tryd.ntmps63
  go_wp2_with (go_at_call 68; refine HV.out.mono ?_; rintro e w' ⟨rfl, rfl⟩)
  go_ret2
  exact ⟨rfl, hb⟩
end Go.Proofs.YtcdbkgpgjjeoiaaDoor
