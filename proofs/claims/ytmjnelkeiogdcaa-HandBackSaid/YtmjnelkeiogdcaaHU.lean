/- Walks of package hand: Check. -/
import Derived.Test.YtmjnelkeiogdcaaHT
namespace Go.Proofs.Ytmjnelkeiogdcaa
open Go Go.RowKit Go.Shelf
set_option maxRecDepth 100000

set_option maxHeartbeats 1000000 in
theorem areCards_c (L : List Int) (p : Option Addr) (c : Nat) (least : Int) (w : World) (hn : L.length ≤ 1000) (hc : ∀ i (h : i < L.length), ∃ b o, p = some ⟨b, o, none⟩ ∧ b < w.heap.size ∧ w.cell? ⟨b, o + i, none⟩ = some (.int .i64 L[i])) :
    Calls Try.prog 59 #[.slice p L.length c, .int .i64 least] w fun e w' => e = .returned (.bool (inB L.length least 20 && !L.any badC)) ∧ Below w.heap.size w w' := by
  have H1 := hid (fun W => within_b L.length least 20 W)
  have H2 := hid (containsCards L p c w hn hc)
  clear hc
  generalize L.any badC = b2 at *
  generalize L.length = n at *
  obtain ⟨b1, hb1⟩ : ∃ b1, inB n least 20 = b1 := ⟨_, rfl⟩
  rw [hb1] at H1 ⊢
  clear hb1
  cases b1 with
  | false =>
    rw [Bool.false_and]
    go_enter Try.func59, Try.ntmps59
    go_wp2_with (go_at_call 48; refine (H1.out _).mono ?_; rintro e w1 ⟨rfl, rfl⟩)
    go_ret
    exact ⟨rfl, Below.refl _ _⟩
  | true =>
    rw [Bool.true_and]
    go_enter Try.func59, Try.ntmps59
    go_wp2_with (first
      | (go_at_call 48; refine (H1.out _).mono ?_; rintro e w1 ⟨rfl, rfl⟩)
      | (go_at_call 74; refine H2.out.mono ?_; rintro e w1 ⟨rfl, hb⟩))
    go_ret
    exact ⟨rfl, hb⟩
/-- The hand as it lies in memory. -/
def rawOf (H : HV) : RH := ⟨H.kind, H.count, H.faces.map fun f => (((f.1 : Nat) : Int), ((f.2 : Nat) : Int)), H.lowI, H.highI, H.group, H.changes, H.cards.map fun c => ((c : Nat) : Int)⟩
theorem handR_of (H : HV) (fv cv : Value) : handR (rawOf H) fv cv = handA H fv cv := rfl
theorem HandAt.of {W : World} {N : Nat} {H : HV} {fv cv : Value} (h : RawAt W N (rawOf H) fv cv) : HandAt W N H fv cv := by
  obtain ⟨p, c, hv, hf⟩ := h.faces
  obtain ⟨p', c', hv', hf'⟩ := h.cards
  refine ⟨h.le, fun _ => ⟨p, c, by rw [hv]; simp [rawOf], fun i hi => ?_⟩, fun _ => ⟨p', c', by rw [hv']; simp [rawOf], fun i hi => ?_⟩⟩
  · obtain ⟨b, o, e, hb, h1, h2⟩ := hf i (by simpa [rawOf] using hi)
    exact ⟨b, o, e, hb, by simpa [rawOf] using h1, by simpa [rawOf] using h2⟩
  · obtain ⟨b, o, e, hb, h1⟩ := hf' i (by simpa [rawOf] using hi)
    exact ⟨b, o, e, hb, by simpa [rawOf] using h1⟩
/-- For stalks nothing is asked of the lists. -/
theorem HandAt.stalks {W : World} {N : Nat} {H : HV} {fv cv : Value} (hk : H.kind = 3) (hN : N ≤ W.heap.size) : HandAt W N H fv cv :=
  ⟨hN, fun h => by omega, fun h => by omega⟩
theorem cells8 {W : World} {g : Nat} {t : TypeId} {a b c d e f h i : Value} (hg : W.heap[g]? = some (.cells #[a, b, c, d, e, f, h, i] t (0, 0))) :
    W.cell? ⟨g, 0, none⟩ = some a ∧ W.cell? ⟨g, 1, none⟩ = some b ∧ W.cell? ⟨g, 2, none⟩ = some c ∧ W.cell? ⟨g, 3, none⟩ = some d ∧ W.cell? ⟨g, 4, none⟩ = some e ∧ W.cell? ⟨g, 5, none⟩ = some f ∧ W.cell? ⟨g, 6, none⟩ = some h ∧ W.cell? ⟨g, 7, none⟩ = some i := by
  have key : ∀ j, W.cell? ⟨g, j, none⟩ = (#[a, b, c, d, e, f, h, i] : Array Value)[j]? := fun j => cell_of_row _ _ j _ _ (0, 0) hg
  exact ⟨key 0, key 1, key 2, key 3, key 4, key 5, key 6, key 7⟩
/- Check, kind by kind. -/
set_option maxHeartbeats 1000000 in
theorem check_k1 (c : Int) (p : Option Addr) (n m : Nat) (lo hi g ch : Int) (q : Option Addr) (n' m' : Nat) (w : World) (b1 b2 b3 bb : Bool) (H1 : Hid (∀ W, Calls Try.prog 48 #[.int .i64 c, .int .i64 1, .int .i64 8] W fun e w' => e = .returned (.bool b1) ∧ W = w')) (H2 : Hid (∀ W, Calls Try.prog 48 #[.int .i64 ((n : Nat) : Int), .int .i64 1, .int .i64 20] W fun e w' => e = .returned (.bool b2) ∧ W = w')) (H3 : Hid (Calls Try.prog 56 #[.slice p n m, .func (.func 57) #[] #[.pointer (some ⟨w.heap.size + 1, 0, none⟩)]] ((w.alloc (.cells (handV 1 c (.slice p n m) lo hi g ch (.slice q n' m')) 26)).alloc (.cells #[.func (.func 55) #[] #[]] 90)) fun e w' => e = .returned (.bool b3) ∧ Below ((w.alloc (.cells (handV 1 c (.slice p n m) lo hi g ch (.slice q n' m')) 26)).alloc (.cells #[.func (.func 55) #[] #[]] 90)).heap.size ((w.alloc (.cells (handV 1 c (.slice p n m) lo hi g ch (.slice q n' m')) 26)).alloc (.cells #[.func (.func 55) #[] #[]] 90)) w')) (HE : Hid (∀ W, Calls Try.prog 60 #[.agg (handV 1 c (.slice p n m) lo hi g ch (.slice q n' m'))] W fun e w' => e = .returned (.bool bb) ∧ Below W.heap.size W w')) :
    CallsIn Fence.wide 24 Try.prog 26 #[.agg (handV 1 c (.slice p n m) lo hi g ch (.slice q n' m'))] w fun e w' => e = .returned (.int .i64 (if b1 && b2 && !b3 && bb then 0 else 2)) ∧ Below w.heap.size w w' := by
  have hx := alloc2_first w (.cells (handV 1 c (.slice p n m) lo hi g ch (.slice q n' m')) 26) (.cells #[.func (.func 55) #[] #[]] 90)
  have hb := below2 w (.cells (handV 1 c (.slice p n m) lo hi g ch (.slice q n' m')) 26) (.cells #[.func (.func 55) #[] #[]] 90)
  have hb0 : Below w.heap.size w (w.alloc (.cells (handV 1 c (.slice p n m) lo hi g ch (.slice q n' m')) 26)) := (Below.refl _ _).alloc (Nat.le_refl _) _
  have HBW := hid hb
  have HB0 := hid hb0
  have hst : (store ⟨w.heap.size + 1, 0, none⟩ (.func (.func 55) #[] #[])).run Try.prog ((w.alloc (.cells (#[.int .i64 1, .int .i64 c, .slice p n m, .int .i64 lo, .int .i64 hi, .int .i64 g, .int .i64 ch, .slice q n' m']) 26)).alloc (.cells #[.nilFunc] 90)) = .ok () ((w.alloc (.cells (#[.int .i64 1, .int .i64 c, .slice p n m, .int .i64 lo, .int .i64 hi, .int .i64 g, .int .i64 ch, .slice q n' m']) 26)).alloc (.cells #[.func (.func 55) #[] #[]] 90)) := by
    have hbx : Boxed ((w.alloc (.cells (#[.int .i64 1, .int .i64 c, .slice p n m, .int .i64 lo, .int .i64 hi, .int .i64 g, .int .i64 ch, .slice q n' m']) 26)).alloc (.cells #[.nilFunc] 90)) (w.heap.size + 1) 90 .nilFunc := alloc2_second w _ _
    have h1 := run_store Try.prog ((w.alloc (.cells (#[.int .i64 1, .int .i64 c, .slice p n m, .int .i64 lo, .int .i64 hi, .int .i64 g, .int .i64 ch, .slice q n' m']) 26)).alloc (.cells #[.nilFunc] 90)) ⟨w.heap.size + 1, 0, none⟩ (.func (.func 55) #[] #[]) .plain rfl
    rw [hbx.cell] at h1
    simp only [hbx.frozen, Bool.false_eq_true, if_false] at h1
    rw [h1]
    congr 1
    exact World.setCell_alloc_at _ _ _ _ _ (by simp)
  have HX := hid hx
  clear hx hb hb0
  simp only [handV] at H3 HE HX HBW HB0 ⊢
  cases b1 with
  | false =>
    simp only [Bool.false_and, Bool.and_false, Bool.true_and, Bool.not_true, Bool.not_false, Bool.false_eq_true, if_false, if_true]
    refine callsIn_of_wp Try.func26 rfl trivial ?_ rfl
    simp only [Try.ntmps26, List.size_toArray, List.length_cons, List.length_nil, Nat.reduceAdd, Nat.reduceSub, Array.replicate_succ, Array.replicate_zero, List.push_toArray, List.append_toArray, List.nil_append, List.cons_append]
    gi_wp2_with (first
      | (gi_at_call 48; refine (callsIn_wide.2 (H1.out _)).mono ?_; rintro e w1 ⟨rfl, rfl⟩; clear H1)
      | (gi_at_call 48; refine (callsIn_wide.2 (H2.out _)).mono ?_; rintro e w1 ⟨rfl, rfl⟩; clear H2)
      | (gi_at_call 56; refine (callsIn_wide.2 H3.out).mono ?_; rintro e w3 ⟨rfl, hb3⟩; have HBW := hid (HBW.out.trans (hb3.mono (by have := HBW.out.size; omega))); have HX := hid (heap_below hb3 HX.out (heap_lt HX.out)); have ⟨k0, k1, k2, k3, k4, k5, k6, k7⟩ := cells8 HX.out; clear H3)
      | (gi_at_call 60; refine (callsIn_wide.2 (HE.out _)).mono ?_; rintro e w4 ⟨rfl, hb4⟩; have HBW := hid (HBW.out.trans (hb4.mono (by have := HBW.out.size; omega))); clear HE))
    go_ret
    first | exact ⟨rfl, HBW.out⟩ | exact ⟨rfl, HB0.out⟩
  | true =>
    cases b2 with
    | false =>
      simp only [Bool.false_and, Bool.and_false, Bool.true_and, Bool.not_true, Bool.not_false, Bool.false_eq_true, if_false, if_true]
      refine callsIn_of_wp Try.func26 rfl trivial ?_ rfl
      simp only [Try.ntmps26, List.size_toArray, List.length_cons, List.length_nil, Nat.reduceAdd, Nat.reduceSub, Array.replicate_succ, Array.replicate_zero, List.push_toArray, List.append_toArray, List.nil_append, List.cons_append]
      gi_wp2_with (first
        | (gi_at_call 48; refine (callsIn_wide.2 (H1.out _)).mono ?_; rintro e w1 ⟨rfl, rfl⟩; clear H1)
        | (gi_at_call 48; refine (callsIn_wide.2 (H2.out _)).mono ?_; rintro e w1 ⟨rfl, rfl⟩; clear H2)
        | (gi_at_call 56; refine (callsIn_wide.2 H3.out).mono ?_; rintro e w3 ⟨rfl, hb3⟩; have HBW := hid (HBW.out.trans (hb3.mono (by have := HBW.out.size; omega))); have HX := hid (heap_below hb3 HX.out (heap_lt HX.out)); have ⟨k0, k1, k2, k3, k4, k5, k6, k7⟩ := cells8 HX.out; clear H3)
        | (gi_at_call 60; refine (callsIn_wide.2 (HE.out _)).mono ?_; rintro e w4 ⟨rfl, hb4⟩; have HBW := hid (HBW.out.trans (hb4.mono (by have := HBW.out.size; omega))); clear HE))
      go_ret
      first | exact ⟨rfl, HBW.out⟩ | exact ⟨rfl, HB0.out⟩
    | true =>
      cases b3 with
      | true =>
        simp only [Bool.false_and, Bool.and_false, Bool.true_and, Bool.not_true, Bool.not_false, Bool.false_eq_true, if_false, if_true]
        refine callsIn_of_wp Try.func26 rfl trivial ?_ rfl
        simp only [Try.ntmps26, List.size_toArray, List.length_cons, List.length_nil, Nat.reduceAdd, Nat.reduceSub, Array.replicate_succ, Array.replicate_zero, List.push_toArray, List.append_toArray, List.nil_append, List.cons_append]
        gi_wp2_with (first
          | (gi_at_call 48; refine (callsIn_wide.2 (H1.out _)).mono ?_; rintro e w1 ⟨rfl, rfl⟩; clear H1)
          | (gi_at_call 48; refine (callsIn_wide.2 (H2.out _)).mono ?_; rintro e w1 ⟨rfl, rfl⟩; clear H2)
          | (gi_at_call 56; refine (callsIn_wide.2 H3.out).mono ?_; rintro e w3 ⟨rfl, hb3⟩; have HBW := hid (HBW.out.trans (hb3.mono (by have := HBW.out.size; omega))); have HX := hid (heap_below hb3 HX.out (heap_lt HX.out)); have ⟨k0, k1, k2, k3, k4, k5, k6, k7⟩ := cells8 HX.out; clear H3)
          | (gi_at_call 60; refine (callsIn_wide.2 (HE.out _)).mono ?_; rintro e w4 ⟨rfl, hb4⟩; have HBW := hid (HBW.out.trans (hb4.mono (by have := HBW.out.size; omega))); clear HE))
        go_ret
        first | exact ⟨rfl, HBW.out⟩ | exact ⟨rfl, HB0.out⟩
      | false =>
        cases bb with
        | false =>
          simp only [Bool.false_and, Bool.and_false, Bool.true_and, Bool.not_true, Bool.not_false, Bool.false_eq_true, if_false, if_true]
          refine callsIn_of_wp Try.func26 rfl trivial ?_ rfl
          simp only [Try.ntmps26, List.size_toArray, List.length_cons, List.length_nil, Nat.reduceAdd, Nat.reduceSub, Array.replicate_succ, Array.replicate_zero, List.push_toArray, List.append_toArray, List.nil_append, List.cons_append]
          gi_wp2_with (first
            | (gi_at_call 48; refine (callsIn_wide.2 (H1.out _)).mono ?_; rintro e w1 ⟨rfl, rfl⟩; clear H1)
            | (gi_at_call 48; refine (callsIn_wide.2 (H2.out _)).mono ?_; rintro e w1 ⟨rfl, rfl⟩; clear H2)
            | (gi_at_call 56; refine (callsIn_wide.2 H3.out).mono ?_; rintro e w3 ⟨rfl, hb3⟩; have HBW := hid (HBW.out.trans (hb3.mono (by have := HBW.out.size; omega))); have HX := hid (heap_below hb3 HX.out (heap_lt HX.out)); have ⟨k0, k1, k2, k3, k4, k5, k6, k7⟩ := cells8 HX.out; clear H3)
            | (gi_at_call 60; refine (callsIn_wide.2 (HE.out _)).mono ?_; rintro e w4 ⟨rfl, hb4⟩; have HBW := hid (HBW.out.trans (hb4.mono (by have := HBW.out.size; omega))); clear HE))
          go_ret
          first | exact ⟨rfl, HBW.out⟩ | exact ⟨rfl, HB0.out⟩
        | true =>
          simp only [Bool.false_and, Bool.and_false, Bool.true_and, Bool.not_true, Bool.not_false, Bool.false_eq_true, if_false, if_true]
          refine callsIn_of_wp Try.func26 rfl trivial ?_ rfl
          simp only [Try.ntmps26, List.size_toArray, List.length_cons, List.length_nil, Nat.reduceAdd, Nat.reduceSub, Array.replicate_succ, Array.replicate_zero, List.push_toArray, List.append_toArray, List.nil_append, List.cons_append]
          gi_wp2_with (first
            | (gi_at_call 48; refine (callsIn_wide.2 (H1.out _)).mono ?_; rintro e w1 ⟨rfl, rfl⟩; clear H1)
            | (gi_at_call 48; refine (callsIn_wide.2 (H2.out _)).mono ?_; rintro e w1 ⟨rfl, rfl⟩; clear H2)
            | (gi_at_call 56; refine (callsIn_wide.2 H3.out).mono ?_; rintro e w3 ⟨rfl, hb3⟩; have HBW := hid (HBW.out.trans (hb3.mono (by have := HBW.out.size; omega))); have HX := hid (heap_below hb3 HX.out (heap_lt HX.out)); have ⟨k0, k1, k2, k3, k4, k5, k6, k7⟩ := cells8 HX.out; clear H3)
            | (gi_at_call 60; refine (callsIn_wide.2 (HE.out _)).mono ?_; rintro e w4 ⟨rfl, hb4⟩; have HBW := hid (HBW.out.trans (hb4.mono (by have := HBW.out.size; omega))); clear HE))
          go_ret
          first | exact ⟨rfl, HBW.out⟩ | exact ⟨rfl, HB0.out⟩
set_option maxHeartbeats 1000000 in
theorem check_k2 (c : Int) (p : Option Addr) (n m : Nat) (lo hi g ch : Int) (q : Option Addr) (n' m' : Nat) (w : World) (b1 b2 bb : Bool) (H1 : Hid (∀ W, Calls Try.prog 48 #[.int .i64 lo, .int .i64 1, .int .i64 hi] W fun e w' => e = .returned (.bool b1) ∧ W = w')) (H2 : decide (hi ≤ 1000) = b2) (HE : Hid (∀ W, Calls Try.prog 60 #[.agg (handV 2 c (.slice p n m) lo hi g ch (.slice q n' m'))] W fun e w' => e = .returned (.bool bb) ∧ Below W.heap.size W w')) :
    CallsIn Fence.wide 24 Try.prog 26 #[.agg (handV 2 c (.slice p n m) lo hi g ch (.slice q n' m'))] w fun e w' => e = .returned (.int .i64 (if b1 && b2 && bb then 0 else 2)) ∧ Below w.heap.size w w' := by
  have hx := heap_alloc_new w (.cells (handV 2 c (.slice p n m) lo hi g ch (.slice q n' m')) 26)
  have hb : Below w.heap.size w (w.alloc (.cells (handV 2 c (.slice p n m) lo hi g ch (.slice q n' m')) 26)) := (Below.refl _ _).alloc (Nat.le_refl _) _
  have HBW := hid hb
  have HX := hid hx
  clear hx hb
  simp only [handV] at HE HX HBW ⊢
  cases b1 with
  | false =>
    simp only [Bool.false_and, Bool.and_false, Bool.true_and, Bool.not_true, Bool.not_false, Bool.false_eq_true, if_false, if_true]
    refine callsIn_of_wp Try.func26 rfl trivial ?_ rfl
    simp only [Try.ntmps26, List.size_toArray, List.length_cons, List.length_nil, Nat.reduceAdd, Nat.reduceSub, Array.replicate_succ, Array.replicate_zero, List.push_toArray, List.append_toArray, List.nil_append, List.cons_append]
    gi_wp2_with (first
      | (gi_at_call 48; refine (callsIn_wide.2 (H1.out _)).mono ?_; rintro e w1 ⟨rfl, rfl⟩; clear H1)
      | (gi_at_call 60; refine (callsIn_wide.2 (HE.out _)).mono ?_; rintro e w4 ⟨rfl, hb4⟩; have HBW := hid (HBW.out.trans (hb4.mono (by have := HBW.out.size; omega))); clear HE))
    go_ret
    exact ⟨rfl, HBW.out⟩
  | true =>
    cases b2 with
    | false =>
      simp only [Bool.false_and, Bool.and_false, Bool.true_and, Bool.not_true, Bool.not_false, Bool.false_eq_true, if_false, if_true]
      have H2' : ¬ hi ≤ 1000 := of_decide_eq_false H2
      refine callsIn_of_wp Try.func26 rfl trivial ?_ rfl
      simp only [Try.ntmps26, List.size_toArray, List.length_cons, List.length_nil, Nat.reduceAdd, Nat.reduceSub, Array.replicate_succ, Array.replicate_zero, List.push_toArray, List.append_toArray, List.nil_append, List.cons_append]
      gi_wp2_with (first
        | (gi_at_call 48; refine (callsIn_wide.2 (H1.out _)).mono ?_; rintro e w1 ⟨rfl, rfl⟩; clear H1)
        | (gi_at_call 60; refine (callsIn_wide.2 (HE.out _)).mono ?_; rintro e w4 ⟨rfl, hb4⟩; have HBW := hid (HBW.out.trans (hb4.mono (by have := HBW.out.size; omega))); clear HE))
      go_ret
      exact ⟨rfl, HBW.out⟩
    | true =>
      have H2' : hi ≤ 1000 := of_decide_eq_true H2
      cases bb with
      | false =>
        simp only [Bool.false_and, Bool.and_false, Bool.true_and, Bool.not_true, Bool.not_false, Bool.false_eq_true, if_false, if_true]
        refine callsIn_of_wp Try.func26 rfl trivial ?_ rfl
        simp only [Try.ntmps26, List.size_toArray, List.length_cons, List.length_nil, Nat.reduceAdd, Nat.reduceSub, Array.replicate_succ, Array.replicate_zero, List.push_toArray, List.append_toArray, List.nil_append, List.cons_append]
        gi_wp2_with (first
          | (gi_at_call 48; refine (callsIn_wide.2 (H1.out _)).mono ?_; rintro e w1 ⟨rfl, rfl⟩; clear H1)
          | (gi_at_call 60; refine (callsIn_wide.2 (HE.out _)).mono ?_; rintro e w4 ⟨rfl, hb4⟩; have HBW := hid (HBW.out.trans (hb4.mono (by have := HBW.out.size; omega))); clear HE))
        go_ret
        exact ⟨rfl, HBW.out⟩
      | true =>
        simp only [Bool.false_and, Bool.and_false, Bool.true_and, Bool.not_true, Bool.not_false, Bool.false_eq_true, if_false, if_true]
        refine callsIn_of_wp Try.func26 rfl trivial ?_ rfl
        simp only [Try.ntmps26, List.size_toArray, List.length_cons, List.length_nil, Nat.reduceAdd, Nat.reduceSub, Array.replicate_succ, Array.replicate_zero, List.push_toArray, List.append_toArray, List.nil_append, List.cons_append]
        gi_wp2_with (first
          | (gi_at_call 48; refine (callsIn_wide.2 (H1.out _)).mono ?_; rintro e w1 ⟨rfl, rfl⟩; clear H1)
          | (gi_at_call 60; refine (callsIn_wide.2 (HE.out _)).mono ?_; rintro e w4 ⟨rfl, hb4⟩; have HBW := hid (HBW.out.trans (hb4.mono (by have := HBW.out.size; omega))); clear HE))
        go_ret
        exact ⟨rfl, HBW.out⟩
set_option maxHeartbeats 1000000 in
theorem check_k3 (c : Int) (p : Option Addr) (n m : Nat) (lo hi g ch : Int) (q : Option Addr) (n' m' : Nat) (w : World) (b1 b2 b3 b4 bb : Bool) (H1 : Hid (∀ W, Calls Try.prog 48 #[.int .i64 g, .int .i64 2, .int .i64 8] W fun e w' => e = .returned (.bool b1) ∧ W = w')) (H2 : Hid (∀ W, b1 = true → Calls Try.prog 48 #[.int .i64 c, .int .i64 (2 * g + 1), .int .i64 64] W fun e w' => e = .returned (.bool b2) ∧ W = w')) (H3 : Hid (∀ W, Calls Try.prog 48 #[.int .i64 ch, .int .i64 1, .int .i64 5] W fun e w' => e = .returned (.bool b3) ∧ W = w')) (H4 : Hid (b1 = true → b2 = true → b3 = true → Calls Try.prog 58 #[.agg (handV 3 c (.slice p n m) lo hi g ch (.slice q n' m'))] (w.alloc (.cells (handV 3 c (.slice p n m) lo hi g ch (.slice q n' m')) 26)) fun e w' => e = .returned (.bool b4) ∧ Below (w.alloc (.cells (handV 3 c (.slice p n m) lo hi g ch (.slice q n' m')) 26)).heap.size (w.alloc (.cells (handV 3 c (.slice p n m) lo hi g ch (.slice q n' m')) 26)) w')) (HE : Hid (∀ W, Calls Try.prog 60 #[.agg (handV 3 c (.slice p n m) lo hi g ch (.slice q n' m'))] W fun e w' => e = .returned (.bool bb) ∧ Below W.heap.size W w')) (hg : b1 = true → 2 ≤ g ∧ g ≤ 8) :
    CallsIn Fence.wide 24 Try.prog 26 #[.agg (handV 3 c (.slice p n m) lo hi g ch (.slice q n' m'))] w fun e w' => e = .returned (.int .i64 (if b1 && b2 && b3 && b4 && bb then 0 else 2)) ∧ Below w.heap.size w w' := by
  have hx := heap_alloc_new w (.cells (handV 3 c (.slice p n m) lo hi g ch (.slice q n' m')) 26)
  have hb : Below w.heap.size w (w.alloc (.cells (handV 3 c (.slice p n m) lo hi g ch (.slice q n' m')) 26)) := (Below.refl _ _).alloc (Nat.le_refl _) _
  have HBW := hid hb
  have HX := hid hx
  clear hx hb
  have HG := hid hg
  clear hg
  simp only [handV] at H4 HE HX HBW ⊢
  cases b1 with
  | false =>
    simp only [Bool.false_and, Bool.and_false, Bool.true_and, Bool.not_true, Bool.not_false, Bool.false_eq_true, if_false, if_true]
    refine callsIn_of_wp Try.func26 rfl trivial ?_ rfl
    simp only [Try.ntmps26, List.size_toArray, List.length_cons, List.length_nil, Nat.reduceAdd, Nat.reduceSub, Array.replicate_succ, Array.replicate_zero, List.push_toArray, List.append_toArray, List.nil_append, List.cons_append]
    gi_wp2_with (first
      | (gi_at_call 48; refine (callsIn_wide.2 (H1.out _)).mono ?_; rintro e w1 ⟨rfl, rfl⟩; clear H1)
      | (gi_at_call 48; refine (callsIn_wide.2 (H2b.out _)).mono ?_; rintro e w1 ⟨rfl, rfl⟩; clear H2b)
      | (gi_at_call 48; refine (callsIn_wide.2 (H3.out _)).mono ?_; rintro e w1 ⟨rfl, rfl⟩; clear H3)
      | (gi_at_call 58; refine (callsIn_wide.2 H4b.out).mono ?_; rintro e w3 ⟨rfl, hb3⟩; have HBW := hid (HBW.out.trans (hb3.mono (by have := HBW.out.size; omega))); have HX := hid (heap_below hb3 HX.out (heap_lt HX.out)); have ⟨k0, k1, k2, k3, k4, k5, k6, k7⟩ := cells8 HX.out; clear H4b)
      | (gi_at_call 60; refine (callsIn_wide.2 (HE.out _)).mono ?_; rintro e w4 ⟨rfl, hb4⟩; have HBW := hid (HBW.out.trans (hb4.mono (by have := HBW.out.size; omega))); clear HE))
    go_ret
    exact ⟨rfl, HBW.out⟩
  | true =>
    obtain ⟨hg2, hg8⟩ := HG.out rfl
    have wg1 : IntKind.i64.wrap (2 * g) = 2 * g := IntWalk.i64_in _ (by omega)
    have wg2 : IntKind.i64.wrap (2 * g + 1) = 2 * g + 1 := IntWalk.i64_in _ (by omega)
    have H2b := hid (fun W => H2.out W rfl)
    clear HG hg2 hg8 H2
    cases b2 with
    | false =>
      simp only [Bool.false_and, Bool.and_false, Bool.true_and, Bool.not_true, Bool.not_false, Bool.false_eq_true, if_false, if_true]
      refine callsIn_of_wp Try.func26 rfl trivial ?_ rfl
      simp only [Try.ntmps26, List.size_toArray, List.length_cons, List.length_nil, Nat.reduceAdd, Nat.reduceSub, Array.replicate_succ, Array.replicate_zero, List.push_toArray, List.append_toArray, List.nil_append, List.cons_append]
      gi_wp2_with (first
        | (gi_at_call 48; refine (callsIn_wide.2 (H1.out _)).mono ?_; rintro e w1 ⟨rfl, rfl⟩; clear H1)
        | (gi_at_call 48; refine (callsIn_wide.2 (H2b.out _)).mono ?_; rintro e w1 ⟨rfl, rfl⟩; clear H2b)
        | (gi_at_call 48; refine (callsIn_wide.2 (H3.out _)).mono ?_; rintro e w1 ⟨rfl, rfl⟩; clear H3)
        | (gi_at_call 58; refine (callsIn_wide.2 H4b.out).mono ?_; rintro e w3 ⟨rfl, hb3⟩; have HBW := hid (HBW.out.trans (hb3.mono (by have := HBW.out.size; omega))); have HX := hid (heap_below hb3 HX.out (heap_lt HX.out)); have ⟨k0, k1, k2, k3, k4, k5, k6, k7⟩ := cells8 HX.out; clear H4b)
        | (gi_at_call 60; refine (callsIn_wide.2 (HE.out _)).mono ?_; rintro e w4 ⟨rfl, hb4⟩; have HBW := hid (HBW.out.trans (hb4.mono (by have := HBW.out.size; omega))); clear HE))
      go_ret
      exact ⟨rfl, HBW.out⟩
    | true =>
      cases b3 with
      | false =>
        simp only [Bool.false_and, Bool.and_false, Bool.true_and, Bool.not_true, Bool.not_false, Bool.false_eq_true, if_false, if_true]
        refine callsIn_of_wp Try.func26 rfl trivial ?_ rfl
        simp only [Try.ntmps26, List.size_toArray, List.length_cons, List.length_nil, Nat.reduceAdd, Nat.reduceSub, Array.replicate_succ, Array.replicate_zero, List.push_toArray, List.append_toArray, List.nil_append, List.cons_append]
        gi_wp2_with (first
          | (gi_at_call 48; refine (callsIn_wide.2 (H1.out _)).mono ?_; rintro e w1 ⟨rfl, rfl⟩; clear H1)
          | (gi_at_call 48; refine (callsIn_wide.2 (H2b.out _)).mono ?_; rintro e w1 ⟨rfl, rfl⟩; clear H2b)
          | (gi_at_call 48; refine (callsIn_wide.2 (H3.out _)).mono ?_; rintro e w1 ⟨rfl, rfl⟩; clear H3)
          | (gi_at_call 58; refine (callsIn_wide.2 H4b.out).mono ?_; rintro e w3 ⟨rfl, hb3⟩; have HBW := hid (HBW.out.trans (hb3.mono (by have := HBW.out.size; omega))); have HX := hid (heap_below hb3 HX.out (heap_lt HX.out)); have ⟨k0, k1, k2, k3, k4, k5, k6, k7⟩ := cells8 HX.out; clear H4b)
          | (gi_at_call 60; refine (callsIn_wide.2 (HE.out _)).mono ?_; rintro e w4 ⟨rfl, hb4⟩; have HBW := hid (HBW.out.trans (hb4.mono (by have := HBW.out.size; omega))); clear HE))
        go_ret
        exact ⟨rfl, HBW.out⟩
      | true =>
        have H4b := hid (H4.out rfl rfl rfl)
        clear H4
        cases b4 with
        | false =>
          simp only [Bool.false_and, Bool.and_false, Bool.true_and, Bool.not_true, Bool.not_false, Bool.false_eq_true, if_false, if_true]
          refine callsIn_of_wp Try.func26 rfl trivial ?_ rfl
          simp only [Try.ntmps26, List.size_toArray, List.length_cons, List.length_nil, Nat.reduceAdd, Nat.reduceSub, Array.replicate_succ, Array.replicate_zero, List.push_toArray, List.append_toArray, List.nil_append, List.cons_append]
          gi_wp2_with (first
            | (gi_at_call 48; refine (callsIn_wide.2 (H1.out _)).mono ?_; rintro e w1 ⟨rfl, rfl⟩; clear H1)
            | (gi_at_call 48; refine (callsIn_wide.2 (H2b.out _)).mono ?_; rintro e w1 ⟨rfl, rfl⟩; clear H2b)
            | (gi_at_call 48; refine (callsIn_wide.2 (H3.out _)).mono ?_; rintro e w1 ⟨rfl, rfl⟩; clear H3)
            | (gi_at_call 58; refine (callsIn_wide.2 H4b.out).mono ?_; rintro e w3 ⟨rfl, hb3⟩; have HBW := hid (HBW.out.trans (hb3.mono (by have := HBW.out.size; omega))); have HX := hid (heap_below hb3 HX.out (heap_lt HX.out)); have ⟨k0, k1, k2, k3, k4, k5, k6, k7⟩ := cells8 HX.out; clear H4b)
            | (gi_at_call 60; refine (callsIn_wide.2 (HE.out _)).mono ?_; rintro e w4 ⟨rfl, hb4⟩; have HBW := hid (HBW.out.trans (hb4.mono (by have := HBW.out.size; omega))); clear HE))
          go_ret
          exact ⟨rfl, HBW.out⟩
        | true =>
          cases bb with
          | false =>
            simp only [Bool.false_and, Bool.and_false, Bool.true_and, Bool.not_true, Bool.not_false, Bool.false_eq_true, if_false, if_true]
            refine callsIn_of_wp Try.func26 rfl trivial ?_ rfl
            simp only [Try.ntmps26, List.size_toArray, List.length_cons, List.length_nil, Nat.reduceAdd, Nat.reduceSub, Array.replicate_succ, Array.replicate_zero, List.push_toArray, List.append_toArray, List.nil_append, List.cons_append]
            gi_wp2_with (first
              | (gi_at_call 48; refine (callsIn_wide.2 (H1.out _)).mono ?_; rintro e w1 ⟨rfl, rfl⟩; clear H1)
              | (gi_at_call 48; refine (callsIn_wide.2 (H2b.out _)).mono ?_; rintro e w1 ⟨rfl, rfl⟩; clear H2b)
              | (gi_at_call 48; refine (callsIn_wide.2 (H3.out _)).mono ?_; rintro e w1 ⟨rfl, rfl⟩; clear H3)
              | (gi_at_call 58; refine (callsIn_wide.2 H4b.out).mono ?_; rintro e w3 ⟨rfl, hb3⟩; have HBW := hid (HBW.out.trans (hb3.mono (by have := HBW.out.size; omega))); have HX := hid (heap_below hb3 HX.out (heap_lt HX.out)); have ⟨k0, k1, k2, k3, k4, k5, k6, k7⟩ := cells8 HX.out; clear H4b)
              | (gi_at_call 60; refine (callsIn_wide.2 (HE.out _)).mono ?_; rintro e w4 ⟨rfl, hb4⟩; have HBW := hid (HBW.out.trans (hb4.mono (by have := HBW.out.size; omega))); clear HE))
            go_ret
            exact ⟨rfl, HBW.out⟩
          | true =>
            simp only [Bool.false_and, Bool.and_false, Bool.true_and, Bool.not_true, Bool.not_false, Bool.false_eq_true, if_false, if_true]
            refine callsIn_of_wp Try.func26 rfl trivial ?_ rfl
            simp only [Try.ntmps26, List.size_toArray, List.length_cons, List.length_nil, Nat.reduceAdd, Nat.reduceSub, Array.replicate_succ, Array.replicate_zero, List.push_toArray, List.append_toArray, List.nil_append, List.cons_append]
            gi_wp2_with (first
              | (gi_at_call 48; refine (callsIn_wide.2 (H1.out _)).mono ?_; rintro e w1 ⟨rfl, rfl⟩; clear H1)
              | (gi_at_call 48; refine (callsIn_wide.2 (H2b.out _)).mono ?_; rintro e w1 ⟨rfl, rfl⟩; clear H2b)
              | (gi_at_call 48; refine (callsIn_wide.2 (H3.out _)).mono ?_; rintro e w1 ⟨rfl, rfl⟩; clear H3)
              | (gi_at_call 58; refine (callsIn_wide.2 H4b.out).mono ?_; rintro e w3 ⟨rfl, hb3⟩; have HBW := hid (HBW.out.trans (hb3.mono (by have := HBW.out.size; omega))); have HX := hid (heap_below hb3 HX.out (heap_lt HX.out)); have ⟨k0, k1, k2, k3, k4, k5, k6, k7⟩ := cells8 HX.out; clear H4b)
              | (gi_at_call 60; refine (callsIn_wide.2 (HE.out _)).mono ?_; rintro e w4 ⟨rfl, hb4⟩; have HBW := hid (HBW.out.trans (hb4.mono (by have := HBW.out.size; omega))); clear HE))
            go_ret
            exact ⟨rfl, HBW.out⟩
set_option maxHeartbeats 1000000 in
theorem check_k4 (c : Int) (p : Option Addr) (n m : Nat) (lo hi g ch : Int) (q : Option Addr) (n' m' : Nat) (w : World) (b1 b2 bb : Bool) (H1 : Hid (∀ W, Calls Try.prog 48 #[.int .i64 c, .int .i64 1, .int .i64 4] W fun e w' => e = .returned (.bool b1) ∧ W = w')) (H2 : Hid (Calls Try.prog 59 #[.slice q n' m', .int .i64 c] (w.alloc (.cells (handV 4 c (.slice p n m) lo hi g ch (.slice q n' m')) 26)) fun e w' => e = .returned (.bool b2) ∧ Below (w.alloc (.cells (handV 4 c (.slice p n m) lo hi g ch (.slice q n' m')) 26)).heap.size (w.alloc (.cells (handV 4 c (.slice p n m) lo hi g ch (.slice q n' m')) 26)) w')) (HE : Hid (∀ W, Calls Try.prog 60 #[.agg (handV 4 c (.slice p n m) lo hi g ch (.slice q n' m'))] W fun e w' => e = .returned (.bool bb) ∧ Below W.heap.size W w')) :
    CallsIn Fence.wide 24 Try.prog 26 #[.agg (handV 4 c (.slice p n m) lo hi g ch (.slice q n' m'))] w fun e w' => e = .returned (.int .i64 (if b1 && b2 && bb then 0 else 2)) ∧ Below w.heap.size w w' := by
  have hx := heap_alloc_new w (.cells (handV 4 c (.slice p n m) lo hi g ch (.slice q n' m')) 26)
  have hb : Below w.heap.size w (w.alloc (.cells (handV 4 c (.slice p n m) lo hi g ch (.slice q n' m')) 26)) := (Below.refl _ _).alloc (Nat.le_refl _) _
  have HBW := hid hb
  have HX := hid hx
  clear hx hb
  simp only [handV] at H2 HE HX HBW ⊢
  cases b1 with
  | false =>
    simp only [Bool.false_and, Bool.and_false, Bool.true_and, Bool.not_true, Bool.not_false, Bool.false_eq_true, if_false, if_true]
    refine callsIn_of_wp Try.func26 rfl trivial ?_ rfl
    simp only [Try.ntmps26, List.size_toArray, List.length_cons, List.length_nil, Nat.reduceAdd, Nat.reduceSub, Array.replicate_succ, Array.replicate_zero, List.push_toArray, List.append_toArray, List.nil_append, List.cons_append]
    gi_wp2_with (first
      | (gi_at_call 48; refine (callsIn_wide.2 (H1.out _)).mono ?_; rintro e w1 ⟨rfl, rfl⟩; clear H1)
      | (gi_at_call 59; refine (callsIn_wide.2 H2.out).mono ?_; rintro e w3 ⟨rfl, hb3⟩; have HBW := hid (HBW.out.trans (hb3.mono (by have := HBW.out.size; omega))); have HX := hid (heap_below hb3 HX.out (heap_lt HX.out)); have ⟨k0, k1, k2, k3, k4, k5, k6, k7⟩ := cells8 HX.out; clear H2)
      | (gi_at_call 60; refine (callsIn_wide.2 (HE.out _)).mono ?_; rintro e w4 ⟨rfl, hb4⟩; have HBW := hid (HBW.out.trans (hb4.mono (by have := HBW.out.size; omega))); clear HE))
    go_ret
    exact ⟨rfl, HBW.out⟩
  | true =>
    cases b2 with
    | false =>
      simp only [Bool.false_and, Bool.and_false, Bool.true_and, Bool.not_true, Bool.not_false, Bool.false_eq_true, if_false, if_true]
      refine callsIn_of_wp Try.func26 rfl trivial ?_ rfl
      simp only [Try.ntmps26, List.size_toArray, List.length_cons, List.length_nil, Nat.reduceAdd, Nat.reduceSub, Array.replicate_succ, Array.replicate_zero, List.push_toArray, List.append_toArray, List.nil_append, List.cons_append]
      gi_wp2_with (first
        | (gi_at_call 48; refine (callsIn_wide.2 (H1.out _)).mono ?_; rintro e w1 ⟨rfl, rfl⟩; clear H1)
        | (gi_at_call 59; refine (callsIn_wide.2 H2.out).mono ?_; rintro e w3 ⟨rfl, hb3⟩; have HBW := hid (HBW.out.trans (hb3.mono (by have := HBW.out.size; omega))); have HX := hid (heap_below hb3 HX.out (heap_lt HX.out)); have ⟨k0, k1, k2, k3, k4, k5, k6, k7⟩ := cells8 HX.out; clear H2)
        | (gi_at_call 60; refine (callsIn_wide.2 (HE.out _)).mono ?_; rintro e w4 ⟨rfl, hb4⟩; have HBW := hid (HBW.out.trans (hb4.mono (by have := HBW.out.size; omega))); clear HE))
      go_ret
      exact ⟨rfl, HBW.out⟩
    | true =>
      cases bb with
      | false =>
        simp only [Bool.false_and, Bool.and_false, Bool.true_and, Bool.not_true, Bool.not_false, Bool.false_eq_true, if_false, if_true]
        refine callsIn_of_wp Try.func26 rfl trivial ?_ rfl
        simp only [Try.ntmps26, List.size_toArray, List.length_cons, List.length_nil, Nat.reduceAdd, Nat.reduceSub, Array.replicate_succ, Array.replicate_zero, List.push_toArray, List.append_toArray, List.nil_append, List.cons_append]
        gi_wp2_with (first
          | (gi_at_call 48; refine (callsIn_wide.2 (H1.out _)).mono ?_; rintro e w1 ⟨rfl, rfl⟩; clear H1)
          | (gi_at_call 59; refine (callsIn_wide.2 H2.out).mono ?_; rintro e w3 ⟨rfl, hb3⟩; have HBW := hid (HBW.out.trans (hb3.mono (by have := HBW.out.size; omega))); have HX := hid (heap_below hb3 HX.out (heap_lt HX.out)); have ⟨k0, k1, k2, k3, k4, k5, k6, k7⟩ := cells8 HX.out; clear H2)
          | (gi_at_call 60; refine (callsIn_wide.2 (HE.out _)).mono ?_; rintro e w4 ⟨rfl, hb4⟩; have HBW := hid (HBW.out.trans (hb4.mono (by have := HBW.out.size; omega))); clear HE))
        go_ret
        exact ⟨rfl, HBW.out⟩
      | true =>
        simp only [Bool.false_and, Bool.and_false, Bool.true_and, Bool.not_true, Bool.not_false, Bool.false_eq_true, if_false, if_true]
        refine callsIn_of_wp Try.func26 rfl trivial ?_ rfl
        simp only [Try.ntmps26, List.size_toArray, List.length_cons, List.length_nil, Nat.reduceAdd, Nat.reduceSub, Array.replicate_succ, Array.replicate_zero, List.push_toArray, List.append_toArray, List.nil_append, List.cons_append]
        gi_wp2_with (first
          | (gi_at_call 48; refine (callsIn_wide.2 (H1.out _)).mono ?_; rintro e w1 ⟨rfl, rfl⟩; clear H1)
          | (gi_at_call 59; refine (callsIn_wide.2 H2.out).mono ?_; rintro e w3 ⟨rfl, hb3⟩; have HBW := hid (HBW.out.trans (hb3.mono (by have := HBW.out.size; omega))); have HX := hid (heap_below hb3 HX.out (heap_lt HX.out)); have ⟨k0, k1, k2, k3, k4, k5, k6, k7⟩ := cells8 HX.out; clear H2)
          | (gi_at_call 60; refine (callsIn_wide.2 (HE.out _)).mono ?_; rintro e w4 ⟨rfl, hb4⟩; have HBW := hid (HBW.out.trans (hb4.mono (by have := HBW.out.size; omega))); clear HE))
        go_ret
        exact ⟨rfl, HBW.out⟩
set_option maxHeartbeats 1000000 in
theorem check_k5 (c : Int) (p : Option Addr) (n m : Nat) (lo hi g ch : Int) (q : Option Addr) (n' m' : Nat) (w : World) (b1 bb : Bool) (H1 : Hid (Calls Try.prog 59 #[.slice q n' m', .int .i64 1] (w.alloc (.cells (handV 5 c (.slice p n m) lo hi g ch (.slice q n' m')) 26)) fun e w' => e = .returned (.bool b1) ∧ Below (w.alloc (.cells (handV 5 c (.slice p n m) lo hi g ch (.slice q n' m')) 26)).heap.size (w.alloc (.cells (handV 5 c (.slice p n m) lo hi g ch (.slice q n' m')) 26)) w')) (HE : Hid (∀ W, Calls Try.prog 60 #[.agg (handV 5 c (.slice p n m) lo hi g ch (.slice q n' m'))] W fun e w' => e = .returned (.bool bb) ∧ Below W.heap.size W w')) :
    CallsIn Fence.wide 24 Try.prog 26 #[.agg (handV 5 c (.slice p n m) lo hi g ch (.slice q n' m'))] w fun e w' => e = .returned (.int .i64 (if b1 && bb then 0 else 2)) ∧ Below w.heap.size w w' := by
  have hx := heap_alloc_new w (.cells (handV 5 c (.slice p n m) lo hi g ch (.slice q n' m')) 26)
  have hb : Below w.heap.size w (w.alloc (.cells (handV 5 c (.slice p n m) lo hi g ch (.slice q n' m')) 26)) := (Below.refl _ _).alloc (Nat.le_refl _) _
  have HBW := hid hb
  have HX := hid hx
  clear hx hb
  simp only [handV] at H1 HE HX HBW ⊢
  cases b1 with
  | false =>
    simp only [Bool.false_and, Bool.and_false, Bool.true_and, Bool.not_true, Bool.not_false, Bool.false_eq_true, if_false, if_true]
    refine callsIn_of_wp Try.func26 rfl trivial ?_ rfl
    simp only [Try.ntmps26, List.size_toArray, List.length_cons, List.length_nil, Nat.reduceAdd, Nat.reduceSub, Array.replicate_succ, Array.replicate_zero, List.push_toArray, List.append_toArray, List.nil_append, List.cons_append]
    gi_wp2_with (first
      | (gi_at_call 59; refine (callsIn_wide.2 H1.out).mono ?_; rintro e w3 ⟨rfl, hb3⟩; have HBW := hid (HBW.out.trans (hb3.mono (by have := HBW.out.size; omega))); have HX := hid (heap_below hb3 HX.out (heap_lt HX.out)); have ⟨k0, k1, k2, k3, k4, k5, k6, k7⟩ := cells8 HX.out; clear H1)
      | (gi_at_call 60; refine (callsIn_wide.2 (HE.out _)).mono ?_; rintro e w4 ⟨rfl, hb4⟩; have HBW := hid (HBW.out.trans (hb4.mono (by have := HBW.out.size; omega))); clear HE))
    go_ret
    exact ⟨rfl, HBW.out⟩
  | true =>
    cases bb with
    | false =>
      simp only [Bool.false_and, Bool.and_false, Bool.true_and, Bool.not_true, Bool.not_false, Bool.false_eq_true, if_false, if_true]
      refine callsIn_of_wp Try.func26 rfl trivial ?_ rfl
      simp only [Try.ntmps26, List.size_toArray, List.length_cons, List.length_nil, Nat.reduceAdd, Nat.reduceSub, Array.replicate_succ, Array.replicate_zero, List.push_toArray, List.append_toArray, List.nil_append, List.cons_append]
      gi_wp2_with (first
        | (gi_at_call 59; refine (callsIn_wide.2 H1.out).mono ?_; rintro e w3 ⟨rfl, hb3⟩; have HBW := hid (HBW.out.trans (hb3.mono (by have := HBW.out.size; omega))); have HX := hid (heap_below hb3 HX.out (heap_lt HX.out)); have ⟨k0, k1, k2, k3, k4, k5, k6, k7⟩ := cells8 HX.out; clear H1)
        | (gi_at_call 60; refine (callsIn_wide.2 (HE.out _)).mono ?_; rintro e w4 ⟨rfl, hb4⟩; have HBW := hid (HBW.out.trans (hb4.mono (by have := HBW.out.size; omega))); clear HE))
      go_ret
      exact ⟨rfl, HBW.out⟩
    | true =>
      simp only [Bool.false_and, Bool.and_false, Bool.true_and, Bool.not_true, Bool.not_false, Bool.false_eq_true, if_false, if_true]
      refine callsIn_of_wp Try.func26 rfl trivial ?_ rfl
      simp only [Try.ntmps26, List.size_toArray, List.length_cons, List.length_nil, Nat.reduceAdd, Nat.reduceSub, Array.replicate_succ, Array.replicate_zero, List.push_toArray, List.append_toArray, List.nil_append, List.cons_append]
      gi_wp2_with (first
        | (gi_at_call 59; refine (callsIn_wide.2 H1.out).mono ?_; rintro e w3 ⟨rfl, hb3⟩; have HBW := hid (HBW.out.trans (hb3.mono (by have := HBW.out.size; omega))); have HX := hid (heap_below hb3 HX.out (heap_lt HX.out)); have ⟨k0, k1, k2, k3, k4, k5, k6, k7⟩ := cells8 HX.out; clear H1)
        | (gi_at_call 60; refine (callsIn_wide.2 (HE.out _)).mono ?_; rintro e w4 ⟨rfl, hb4⟩; have HBW := hid (HBW.out.trans (hb4.mono (by have := HBW.out.size; omega))); clear HE))
      go_ret
      exact ⟨rfl, HBW.out⟩
end Go.Proofs.Ytmjnelkeiogdcaa
