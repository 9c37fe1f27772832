/- Walks of the laws' helpers: coins, known. -/
import Derived.Test.YtmjnelkeiogdcaaJQ
import Derived.Test.YtmjnelkeiogdcaaJK
set_option linter.unusedSimpArgs false
set_option linter.unusedVariables false
namespace Go.Proofs.Ytmjnelkeiogdcaa
open Go Go.RowKit Go.Shelf
set_option maxRecDepth 100000

/-- Three coins. -/
def Hc : HV := ⟨1, 3, [(2, 1), (3, 1)], 0, 0, 0, 0, []⟩
/-- Nine stalks. -/
def Hs : HV := ⟨3, 9, [], 0, 0, 4, 1, []⟩
/-- Three cards, of which two are drawn. -/
def Hd : HV := ⟨4, 2, [], 0, 0, 0, 0, [0, 0, 1]⟩
theorem val_c : Val Hc := by
  have h : okR (rawOf Hc) = true := by
    show okR ⟨1, 3, [(2, 1), (3, 1)], 0, 0, 0, 0, []⟩ = true
    unfold okR
    rw [if_pos rfl]
    decide
  have := (Val.of h).1
  exact this
theorem val_d : Val Hd := by
  have h : okR (rawOf Hd) = true := by
    show okR ⟨4, 2, [], 0, 0, 0, 0, [0, 0, 1]⟩ = true
    unfold okR
    rw [if_neg (by decide), if_neg (by decide), if_neg (by decide), if_pos rfl]
    decide
  have := (Val.of h).1
  exact this
theorem last_s : LastR (rawOf Hs) := by
  intro k s hr
  have hr' : Reach Hs (.divided 1 9) k s := hr
  have hF : Fit Hs (.divided 1 9) := ⟨⟨by decide, by decide, by decide, by decide⟩, trivial⟩
  obtain ⟨h1, h2⟩ := reach_fit Hs _ hF k s hr'
  cases k with
  | zero => have e : s = .divided 1 9 := hr'; subst e; rfl
  | succ k =>
    have h0 : dep s = 0 := by have e : dep (.divided 1 9) = 1 := rfl; omega
    cases s with
    | divided l n => have e : l = 0 := h0; subst e; rfl
    | _ => rfl
theorem val_s : Val Hs := by
  have h : okR (rawOf Hs) = true := by
    have hl := last_s
    show okR ⟨3, 9, [], 0, 0, 4, 1, []⟩ = true
    have hl' : LastR ⟨3, 9, [], 0, 0, 4, 1, []⟩ := hl
    unfold okR
    rw [if_neg (by decide), if_neg (by decide), if_pos rfl]
    simp only [hl', decide_true, Bool.and_true]
    decide
  have := (Val.of h).1
  exact this
theorem wts_c : dnK Hc (beginS Hc) (dep (beginS Hc)) ≤ 1000000000000000 ∧ outsN Hc = 10 ∧ ((List.range 10).map fun o => rawW Hc (beginS Hc) o / gcdW (rawW Hc (beginS Hc)) 10) = [0, 0, 0, 0, 0, 0, 1, 3, 3, 1] := by decide +kernel
theorem wts_s : dnK Hs (beginS Hs) (dep (beginS Hs)) ≤ 1000000000000000 ∧ outsN Hs = 3 ∧ ((List.range 3).map fun o => rawW Hs (beginS Hs) o / gcdW (rawW Hs (beginS Hs)) 3) = [1, 6, 0] := by decide +kernel
theorem run_cc : runV Hc (fulN Hc (beginS Hc) [0, 1, 1]) = #[.int .i64 8, .int .i64 0, .int .i64 0] := by kernel_rfl
theorem nth_cc : cntO Hc (-1) (beginS Hc) ≤ 1000000000000000 ∧ 2 < cntO Hc 8 (beginS Hc) ∧ nthN Hc (okO Hc 8) (dep (beginS Hc)) (beginS Hc) 2 = [1, 1, 0] := by decide +kernel
theorem rank_dd : rankV Hd [2, 1] = #[.int .i64 1, .int .i64 0, .int .i64 0] := by kernel_rfl
theorem wts_reads {W : World} {ob m : Nat} {f : Nat → Nat} (h : W.heap[ob]? = some (.cells (irow m (cst f)) 3 (0, 0))) (xs : List Nat) (hx : (List.range m).map f = xs) : Reads W (.slice (some ⟨ob, 0, none⟩) m m) (xs.map fun x => ((x : Nat) : Int)) := by
  subst hx
  refine .inr ⟨ob, 0, m, by simp, heap_lt h, fun k hk => ?_⟩
  have hkm : k < m := by simpa using hk
  rw [Nat.zero_add, cell_irow h k hkm]
  simp [cst]
theorem coins_c (w : World) : Calls Try.prog 37 #[] w fun e w' => ∃ fv, e = .returned (.agg (handA Hc fv (.slice none 0 0))) ∧ RawAt w' w'.heap.size (rawOf Hc) fv (.slice none 0 0) ∧ Below w.heap.size w w' := by
  have hz := heap_alloc_new w (.cells #[.int .i64 0, .int .i64 0, .slice none 0 0, .int .i64 0, .int .i64 0, .int .i64 0, .int .i64 0, .slice none 0 0] 26)
  have HZ := hid hz
  clear hz
  go_enter Try.func37, Try.ntmps37
  go_wp2_with fail
  have hb := below2 w (.cells #[.int .i64 1, .int .i64 3, .slice (some ⟨w.heap.size + 1, 0, none⟩) 2 2, .int .i64 0, .int .i64 0, .int .i64 0, .int .i64 0, .slice none 0 0] 26) (.cells #[.int .i64 2, .int .i64 1, .int .i64 3, .int .i64 1] 50)
  have h1 := alloc2_first w (.cells #[.int .i64 1, .int .i64 3, .slice (some ⟨w.heap.size + 1, 0, none⟩) 2 2, .int .i64 0, .int .i64 0, .int .i64 0, .int .i64 0, .slice none 0 0] 26) (.cells #[.int .i64 2, .int .i64 1, .int .i64 3, .int .i64 1] 50)
  have h2 := alloc2_second w (.cells #[.int .i64 1, .int .i64 3, .slice (some ⟨w.heap.size + 1, 0, none⟩) 2 2, .int .i64 0, .int .i64 0, .int .i64 0, .int .i64 0, .slice none 0 0] 26) (.cells #[.int .i64 2, .int .i64 1, .int .i64 3, .int .i64 1] 50)
  refine bodyPost_ret (results_row Try.results37 rfl h1 Try.underlying26 rfl (by kernel_rfl)) rfl ⟨.slice (some ⟨w.heap.size + 1, 0, none⟩) 2 2, rfl, ?_, hb⟩
  refine ⟨Nat.le_refl _, ⟨_, 2, rfl, fun i hi => ⟨w.heap.size + 1, 0, rfl, heap_lt h2, ?_, ?_⟩⟩, ⟨none, 0, rfl, fun i hi => by simp [rawOf, Hc] at hi⟩⟩
  · have hi' : i < 2 := hi
    have : i = 0 ∨ i = 1 := by omega
    rcases this with rfl | rfl <;> (rw [cell_of_row _ _ _ _ _ _ h2]; rfl)
  · have hi' : i < 2 := hi
    have : i = 0 ∨ i = 1 := by omega
    rcases this with rfl | rfl <;> (rw [cell_of_row _ _ _ _ _ _ h2]; rfl)
theorem wt_cc (fv cv : Value) (N : Nat) (w : World) (hR : RawAt w N (rawOf Hc) fv cv) : Calls Try.prog 14 #[.agg (handA Hc fv cv)] w fun e w' => ∃ ob, e = .returned (.tuple #[.slice (some ⟨ob, 0, none⟩) 10 10, .int .i64 0]) ∧ Reads w' (.slice (some ⟨ob, 0, none⟩) 10 10) [0, 0, 0, 0, 0, 0, 1, 3, 3, 1] ∧ Below w.heap.size w w' :=
  (callsIn_wide.1 (Weights_in 24 (by omega) N Hc val_c fv cv w hR)).mono (by
    rintro e w' ⟨hb, ⟨-, ob, _, rfl, hc⟩ | ⟨hno, -⟩⟩
    · rw [wts_c.2.1] at hc ⊢
      exact ⟨ob, rfl, wts_reads hc _ wts_c.2.2, hb⟩
    · exact absurd wts_c.1 hno)
theorem wt_ss (fv cv : Value) (N : Nat) (w : World) (hR : RawAt w N (rawOf Hs) fv cv) : Calls Try.prog 14 #[.agg (handA Hs fv cv)] w fun e w' => ∃ ob, e = .returned (.tuple #[.slice (some ⟨ob, 0, none⟩) 3 3, .int .i64 0]) ∧ Reads w' (.slice (some ⟨ob, 0, none⟩) 3 3) [1, 6, 0] ∧ Below w.heap.size w w' :=
  (callsIn_wide.1 (Weights_in 24 (by omega) N Hs val_s fv cv w hR)).mono (by
    rintro e w' ⟨hb, ⟨-, ob, _, rfl, hc⟩ | ⟨hno, -⟩⟩
    · rw [wts_s.2.1] at hc ⊢
      exact ⟨ob, rfl, wts_reads hc _ wts_s.2.2, hb⟩
    · exact absurd wts_s.1 hno)
theorem run_c (fv cv v : Value) (N Nc : Nat) (w : World) (hR : RawAt w N (rawOf Hc) fv cv) (hC : CrsAt w Nc v [0, 1, 1]) : Calls Try.prog 29 #[.agg (handA Hc fv cv), v] w fun e w' => e = .returned (.tuple #[.int .i64 8, .int .i64 0, .int .i64 0]) ∧ Below w.heap.size w w' :=
  (Run_yes N Nc Hc val_c fv cv v _ (by decide) (by decide) w hR hC).mono fun e w' ⟨h, hb⟩ => ⟨by rw [h, run_cc], hb⟩
theorem nth_c (fv cv : Value) (N : Nat) (w : World) (hR : RawAt w N (rawOf Hc) fv cv) : Calls Try.prog 21 #[.agg (handA Hc fv cv), .int .i64 8, .int .i64 2] w fun e w' => ∃ v, e = .returned (.tuple #[v, .int .i64 0]) ∧ Reads w' v [1, 1, 0] ∧ Below w.heap.size w w' :=
  (callsIn_wide.1 (Nth_in 24 (by omega) Hc val_c fv cv 8 (by rw [wts_c.2.1]; omega) nth_cc.1 2 nth_cc.2.1 N w hR)).mono fun e w' ⟨v, h, hi, hb⟩ => ⟨v, h, by rw [nth_cc.2.2] at hi; exact hi.reads, hb⟩
theorem rank_d (fv cv v : Value) (N Nc : Nat) (w : World) (hR : RawAt w N (rawOf Hd) fv cv) (hC : CrsAt w Nc v [2, 1]) : Calls Try.prog 24 #[.agg (handA Hd fv cv), v] w fun e w' => e = .returned (.tuple #[.int .i64 1, .int .i64 0, .int .i64 0]) ∧ Below w.heap.size w w' :=
  (Rank_yes N Nc Hd val_d fv cv v _ (by decide) (by decide) w hR hC).mono fun e w' ⟨h, hb⟩ => ⟨by rw [h, rank_dd], hb⟩
/-- A row of literals lies as a list. -/
theorem lit_crs {w : World} {g n : Nat} {cs : Array Value} {xs : List Int} (h : w.heap[g]? = some (.cells cs 3 (0, 0))) (hc : cs = (xs.map (Value.int .i64)).toArray) (hn : n = xs.length) : CrsAt w w.heap.size (.slice (some ⟨g, 0, none⟩) n n) xs := by
  subst hn hc
  refine ⟨Nat.le_refl _, some ⟨g, 0, none⟩, xs.length, rfl, fun i hi => ⟨g, 0, rfl, heap_lt h, ?_⟩⟩
  rw [Nat.zero_add, cell_of_row _ _ i _ _ _ h]
  simp [hi]
theorem lit_reads {w : World} {g n : Nat} {cs : Array Value} {xs : List Int} (h : w.heap[g]? = some (.cells cs 3 (0, 0))) (hc : cs = (xs.map (Value.int .i64)).toArray) (hn : n = xs.length) : Reads w (.slice (some ⟨g, 0, none⟩) n n) xs := by
  subst hn hc
  refine .inr ⟨g, 0, xs.length, rfl, heap_lt h, fun i hi => ?_⟩
  rw [Nat.zero_add, cell_of_row _ _ i _ _ _ h]
  simp [hi]
theorem raw_d {W : World} {g : Nat} (h : W.heap[g]? = some (.cells #[.int .i64 0, .int .i64 0, .int .i64 1] 3 (0, 0))) : RawAt W W.heap.size (rawOf Hd) (.slice none 0 0) (.slice (some ⟨g, 0, none⟩) 3 3) := by
  refine ⟨Nat.le_refl _, ⟨none, 0, rfl, fun i hi => by simp [rawOf, Hd] at hi⟩, ⟨_, 3, rfl, fun i hi => ⟨g, 0, rfl, heap_lt h, ?_⟩⟩⟩
  have hi' : i < 3 := hi
  have : i = 0 ∨ i = 1 ∨ i = 2 := by omega
  rcases this with rfl | rfl | rfl <;> (rw [cell_of_row _ _ _ _ _ _ h]; rfl)
theorem sam_t (va vb : Value) (xs : List Int) (w : World) (ha : Reads w va xs) (hb : Reads w vb xs) (hx : xs.length ≤ 9223372036854775807) : Calls Try.prog 18 #[va, vb] w fun e w' => e = .returned (.bool true) ∧ Below w.heap.size w w' :=
  (sam_c va vb xs xs w ha hb hx hx).mono fun e w' ⟨h, hb⟩ => ⟨by rw [h]; simp, hb⟩
set_option maxHeartbeats 2000000 in
theorem known_c (w : World) : Calls Try.prog 12 #[] w fun e w' => e = .returned (.bool true) ∧ Below w.heap.size w w' := by
  go_enter Try.func12, Try.ntmps12
  go_upto_region 2 with (first
    | (go_at_call 37; refine (coins_c _).mono ?_; rintro e wA ⟨fA, rfl, hRA, hbA⟩)
    | (go_at_call 14; refine (wt_cc _ _ _ _ hRA).mono ?_; rintro e w1 ⟨ob, rfl, hw1, hb1⟩))
  have HB := hid (hbA.trans (hb1.mono hbA.size))
  have HW := hid hw1
  clear hbA hb1 hRA hw1
  have hL : ∀ (V : World) (cs : Array Value), Below V.heap.size V (V.alloc (.cells cs 3)) := fun V cs => (Below.refl _ _).alloc (Nat.le_refl _) _
  go_upto_region 3 with (first
    | (go_at_call 37; refine (coins_c _).mono ?_; rintro e wA ⟨fB, rfl, hRA, hbA⟩)
    | (go_at_call 29; refine (run_c _ _ _ wA.heap.size _ _ (hRA.below ((hL _ _).mono hRA.le)) (lit_crs (heap_alloc_new wA _) rfl rfl)).mono ?_; rintro e w3 ⟨rfl, hb3⟩))
  have hb13 : Below w1.heap.size w1 w3 := (hbA.trans ((hL wA _).mono hbA.size)).trans (hb3.mono (Nat.le_trans hbA.size (hL wA _).size))
  have HB := hid (HB.out.trans (hb13.mono HB.out.size))
  have HW := hid (HW.out.below hb13)
  clear hbA hb3 hRA hb13
  go_upto_region 4 with (first
    | (go_at_call 37; refine (coins_c _).mono ?_; rintro e wA ⟨fC, rfl, hRA, hbA⟩)
    | (go_at_call 21; refine (nth_c _ _ _ _ hRA).mono ?_; rintro e w5 ⟨nv, rfl, hw5, hb5⟩))
  have hb35 := hbA.trans (hb5.mono hbA.size)
  have HB := hid (HB.out.trans (hb35.mono HB.out.size))
  have HW := hid (HW.out.below hb35)
  have HN := hid hw5
  clear hbA hb5 hRA hb35 hw5
  have hRs : ∀ V : World, RawAt V V.heap.size (rawOf Hs) (.slice none 0 0) (.slice none 0 0) := fun V => ⟨Nat.le_refl _, ⟨none, 0, rfl, fun i hi => by simp [rawOf, Hs] at hi⟩, ⟨none, 0, rfl, fun i hi => by simp [rawOf, Hs] at hi⟩⟩
  go_upto_region 5 with (go_at_call 14; refine (wt_ss _ _ _ _ (hRs _)).mono ?_; rintro e w6 ⟨ob6, rfl, hw6, hb6⟩)
  have HB := hid (HB.out.trans (hb6.mono HB.out.size))
  have HW := hid (HW.out.below hb6)
  have HN := hid (HN.out.below hb6)
  have HS := hid hw6
  clear hb6 hRs hw6
  go_upto_region 6 with (go_at_call 24; refine (rank_d _ _ _ _ _ _ (raw_d (alloc2_first w6 _ _)) (lit_crs (alloc2_second w6 _ _) rfl rfl)).mono ?_; rintro e w7 ⟨rfl, hb7⟩)
  have hb67 := (below2 w6 (.cells #[.int .i64 0, .int .i64 0, .int .i64 1] 3) (.cells #[.int .i64 2, .int .i64 1] 3)).trans (hb7.mono (below2 w6 _ _).size)
  have HB := hid (HB.out.trans (hb67.mono HB.out.size))
  have HW := hid (HW.out.below hb67)
  have HN := hid (HN.out.below hb67)
  have HS := hid (HS.out.below hb67)
  clear hb7 hb67
  go_upto_region 8 with fail
  go_wp2_with (first
    | (go_at_call 18; refine (sam_t (.slice (some ⟨ob, 0, none⟩) 10 10) _ [0, 0, 0, 0, 0, 0, 1, 3, 3, 1] _ (HW.out.below (hL w7 _)) (lit_reads (heap_alloc_new w7 _) rfl rfl) (by decide)).mono ?_; rintro e w8 ⟨rfl, hb8⟩; have hb78 := (hL w7 _).trans (hb8.mono (hL w7 _).size); have HB := hid (HB.out.trans (hb78.mono HB.out.size)); have HN := hid (HN.out.below hb78); have HS := hid (HS.out.below hb78); clear hb8 hb78 HW)
    | (go_at_call 18; refine (sam_t nv _ [1, 1, 0] _ (HN.out.below (hL w8 _)) (lit_reads (heap_alloc_new w8 _) rfl rfl) (by decide)).mono ?_; rintro e w9 ⟨rfl, hb9⟩; have hb89 := (hL w8 _).trans (hb9.mono (hL w8 _).size); have HB := hid (HB.out.trans (hb89.mono HB.out.size)); have HS := hid (HS.out.below hb89); clear hb9 hb89 HN)
    | (go_at_call 18; refine (sam_t (.slice (some ⟨ob6, 0, none⟩) 3 3) _ [1, 6, 0] _ (HS.out.below (hL w9 _)) (lit_reads (heap_alloc_new w9 _) rfl rfl) (by decide)).mono ?_; rintro e w10 ⟨rfl, hb10⟩; have hb910 := (hL w9 _).trans (hb10.mono (hL w9 _).size); have HB := hid (HB.out.trans (hb910.mono HB.out.size)); clear hb10 hb910 HS))
  go_ret
  exact ⟨rfl, HB.out⟩
end Go.Proofs.Ytmjnelkeiogdcaa
