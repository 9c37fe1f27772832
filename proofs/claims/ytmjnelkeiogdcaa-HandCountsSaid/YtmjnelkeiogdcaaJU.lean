/- The law HandSteps. -/
import Derived.Test.YtmjnelkeiogdcaaJT
set_option linter.unusedSimpArgs false
set_option linter.unusedVariables false
namespace Go.Proofs.Ytmjnelkeiogdcaa
open Go Go.RowKit Go.Shelf
set_option maxRecDepth 100000

/-- A copy of a hand, from any world behind the first one. -/
theorem own_r (R : RH) (fv cv : Value) (w : World) (hrf : ReadsF w fv R.faces) (hrc : ReadsA w cv R.cards) (hlf : R.faces.length ≤ 1000) (hlc : R.cards.length ≤ 1000) (g : Nat) (hg : w.heap.size = g) (W : World) (hb : Below g w W) :
    Calls Try.prog 15 #[.agg (handR R fv cv)] W fun e w' => ∃ f c, e = .returned (.agg (handR R f c)) ∧ ReadsF w' f R.faces ∧ ReadsA w' c R.cards ∧ Below W.heap.size W w' := by
  subst hg
  exact (own_c R fv cv W (hrf.below hb) (hrc.below hb) (by omega) (by omega)).mono fun e w' ⟨f, c, h1, h2, h3, h4⟩ => ⟨f, c, h1, h2.reads, h3.readsA, h4⟩
/-- What holds between the steps of a law: the hand's box, and a list of the call's own. -/
structure LwI (g : Nat) (w : World) (R : RH) (fv cv : Value) (u : Value) (L : List Int) (W : World) : Prop where
  bel : Below g w W
  hx : W.heap[g]? = some (.cells (handR R fv cv) 26 (0, 0))
  hu : Ints W g u L
theorem LwI.below {g : Nat} {w : World} {R : RH} {fv cv u : Value} {L : List Int} {W W' : World} (h : LwI g w R fv cv u L W) (hb : Below W.heap.size W W') : LwI g w R fv cv u L W' :=
  ⟨h.bel.trans (hb.mono (by have := heap_lt h.hx; omega)), heap_below hb h.hx (heap_lt h.hx), h.hu.below hb⟩
theorem LwI.grown {g : Nat} {w : World} {R : RH} {fv cv u : Value} {L : List Int} {W W' : World} (h : LwI g w R fv cv u L W) {v : Value} {M : List Int} {b : Nat} (hv : Ints W b v M) (hgb : W.heap.size ≤ b ∨ (g + 1 ≤ b ∧ ∀ q, u.ownBlock = some q → q < b)) (hG : W.grownBy W' v.ownBlock) : LwI g w R fv cv u L W' := by
  have hx := heap_lt h.hx
  refine ⟨h.bel.grown hG (by omega) (fun k hk => by have := (hv.own k hk).1; omega), own_block hv hG h.hx (.inr fun cs e => by cases e), ⟨h.hu.1, h.hu.2.imp id fun ⟨q, cap, cur, h3, h4, h5, h6⟩ => ⟨q, cap, cur, h3, h4, own_block hv hG h5 (.inl ?_), h6⟩⟩⟩
  rcases hgb with hgb | hgb
  · exact Nat.lt_of_lt_of_le (heap_lt h5) hgb
  · exact hgb.2 q (by rw [h3]; rfl)
theorem run_small (H : HV) : ∀ (L : List Nat) (s t : St), Fit H s → runN H s L = some t → ∀ c ∈ L, c ≤ 20000
  | [], s, t, _, _ => by simp
  | c :: L, s, t, hF, h => by
    rw [runN] at h
    cases hp : pick (brs H s) c with
    | none => rw [hp] at h; cases h
    | some v =>
      rw [hp] at h
      have h1 := pick_lt _ _ _ hp
      rw [← chN_sum] at h1
      have h2 := brs_small H s hF
      obtain ⟨w, hw⟩ := pick_mem _ _ _ hp
      intro x hx
      rcases List.mem_cons.1 hx with rfl | hx
      · omega
      · exact run_small H L v t (step_fit H s hF _ hw).1 h x hx
theorem Ints.at {W : World} {b q n cap : Nat} {L : List Int} (h : Ints W b (.slice (some ⟨q, 0, none⟩) n cap) L) (k : Nat) (hk : k < L.length) : W.cell? ⟨q, k, none⟩ = some (.int .i64 L[k]) := by
  rcases h.2 with ⟨h2, _⟩ | ⟨g, cap', cur, h3, h4, h5, h6, h7, h8, h9⟩
  · cases h2
  · injection h3 with e1 e2 e3
    injection e1 with e1
    injection e1 with e1 _ _
    subst e1
    rw [cell_of_row _ _ k _ _ _ h5]
    have h10 : (cur.toList.take (L.length * 1))[k]? = (L.map (Value.int .i64))[k]? := by rw [h9]
    rw [List.getElem?_take, if_pos (by omega)] at h10
    rw [← Array.getElem?_toList, h10, List.getElem?_map, List.getElem?_eq_getElem hk]
    rfl
theorem HiOf {p : Prop} (h : p) : Hid p := hid h
set_option maxHeartbeats 4000000 in
theorem steps_c (R : RH) (fv cv : Value) (ch : List Nat) (v : Value) (w : World) (hrf : ReadsF w fv R.faces) (hrc : ReadsA w cv R.cards) (hch : ReadsU w v ch) :
    Calls Try.prog 9 #[.agg (handR R fv cv), v] w fun e w' => e = .returned (.bool true) ∧ Below w.heap.size w w' := by
  have hx := heap_alloc_new w (.cells (handR R fv cv) 26)
  have hb : Below w.heap.size w (w.alloc (.cells (handR R fv cv) 26)) := (Below.refl _ _).alloc (Nat.le_refl _) _
  have HX := hid hx
  have HB := hid hb
  obtain ⟨pf, cf, hfe⟩ := hrf.form
  obtain ⟨pc, cc, hce⟩ := hrc.form
  obtain ⟨pu, cu, hue⟩ := hch.form
  have HLG := hid (fun W => large_c R pf pc R.faces.length cf R.cards.length cc W)
  rw [← hfe, ← hce] at HLG
  clear hx hb
  by_cases hbig : 30 < R.faces.length ∨ 30 < R.cards.length
  · have hbg : (decide (30 < R.faces.length) || decide (30 < R.cards.length)) = true := by simpa using hbig
    rw [hbg] at HLG
    clear hbig hbg hfe hce hue hrf hrc hch
    go_enter Try.func9, Try.ntmps9
    go_wp2_with (first
      | (refine wpList_value rfl (by intro c hc; cases hc) (.agg (handR R fv cv)) (exec_ldR rfl rfl HX.out) ?_)
      | (go_at_call 11; refine (HLG.out _).mono ?_; rintro e w1 ⟨rfl, hb1⟩)
      | (go_at_call 12; refine (known_c _).mono ?_; rintro e w2 ⟨rfl, hb2⟩))
    go_ret
    exact ⟨rfl, (HB.out.trans (hb1.mono HB.out.size)).trans (hb2.mono (Nat.le_trans HB.out.size hb1.size))⟩
  · have hsm : (decide (30 < R.faces.length) || decide (30 < R.cards.length)) = false := by simpa using hbig
    rw [hsm] at HLG
    have hlf : R.faces.length ≤ 30 := by omega
    have hlc : R.cards.length ≤ 30 := by omega
    obtain ⟨n0, hn0⟩ : ∃ n0, ch.length = n0 := ⟨_, rfl⟩
    rw [hn0] at hue
    by_cases hlong : 12 < n0
    · have hl1 : decide ((12 : Int) < ((n0 : Nat) : Int)) = true := decide_eq_true (by omega)
      have hl2 : (12 : Int) < ((n0 : Nat) : Int) := by omega
      subst hue
      clear hbig hsm hfe hce hrf hrc hch hlf hlc
      go_enter Try.func9, Try.ntmps9
      go_wp2_with (first
        | (refine wpList_value rfl (by intro c hc; cases hc) (.agg (handR R fv cv)) (exec_ldR rfl rfl HX.out) ?_)
        | (go_at_call 11; refine (HLG.out _).mono ?_; rintro e w1 ⟨rfl, hb1⟩)
        | (go_at_call 12; refine (known_c _).mono ?_; rintro e w2 ⟨rfl, hb2⟩))
      go_ret
      exact ⟨rfl, (HB.out.trans (hb1.mono HB.out.size)).trans (hb2.mono (Nat.le_trans HB.out.size hb1.size))⟩
    · have hl1 : decide ((12 : Int) < ((n0 : Nat) : Int)) = false := decide_eq_false (by omega)
      have hl2 : ¬ (12 : Int) < ((n0 : Nat) : Int) := by omega
      obtain ⟨g, hg⟩ : ∃ g, w.heap.size = g := ⟨_, rfl⟩
      have HOW := hid (fun W hW => own_r R fv cv w hrf hrc (by omega) (by omega) g hg W hW)
      by_cases hok : okR R = true
      · obtain ⟨H, rfl, hV⟩ : ∃ H, R = rawOf H ∧ Val H := ⟨toH R, (Val.of hok).2.symm, (Val.of hok).1⟩
        have HOC := hid (fun f c W (h1 : ReadsF W f (rawOf H).faces) (h2 : ReadsA W c (rawOf H).cards) => Outcomes_yes H hV f c W.heap.size W (RawAt.came h1 h2))
        have HWK := hid (fun W (hW : Below g w W) => walk_c H hV fv cv ch v W (hrf.below (hg ▸ hW)) (hrc.below (hg ▸ hW)) (hch.below (hg ▸ hW)) (by omega))
        have HRU := hid (fun (L : List Int) (hl : L.length ≤ 1000) (h63 : ∀ c ∈ L, c ≤ 9223372036854775807) f c u W (h1 : ReadsF W f (rawOf H).faces) (h2 : ReadsA W c (rawOf H).cards) (h3 : ReadsA W u L) => Run_yes W.heap.size W.heap.size H hV f c u L (by omega) h63 W (RawAt.came h1 h2) (CrsAt.came h3))
        have HNX := hid (fun (L : List Int) (hl : L.length ≤ 1000) (h63 : ∀ c ∈ L, c ≤ 9223372036854775807) f c u W (h1 : ReadsF W f (rawOf H).faces) (h2 : ReadsA W c (rawOf H).cards) (h3 : ReadsA W u L) => Next_yes W.heap.size W.heap.size H hV f c u L (by omega) h63 W (RawAt.came h1 h2) (CrsAt.came h3))
        obtain ⟨t, ht1, ht2, ht3, ht4, ht5⟩ := walk_run H ch (dep (beginS H)) (beginS H) 0 rfl (begin_fit H hV.hand.ok) hV.hand.last
        obtain ⟨hF1, ho1, ho2, hF2, ys, c, nn, s', hxs, hcn, hnn, hF3, hch3, hF4, hF5⟩ := course_facts H hV.hand.ok hV.hand.last _ t ht1 ht2 ht5 (dep_pos H hV.hand.ok)
        have hd8 := dep_le (begin_fit H hV.hand.ok)
        have hsm := run_small H _ _ t (begin_fit H hV.hand.ok) ht1
        obtain ⟨m, hm⟩ : ∃ m, outsN H = m := ⟨_, rfl⟩
        have hml := outs_le H hV.hand.ok
        rw [hm] at hml
        simp only [hm] at HOC
        obtain ⟨o, ho⟩ : ∃ o, outN H t = o := ⟨_, rfl⟩
        rw [ho, hm] at ho2
        rw [ho] at ho1
        obtain ⟨xs, hxx⟩ : ∃ xs, walkN H ch (dep (beginS H)) (beginS H) 0 = xs := ⟨_, rfl⟩
        rw [hxx] at HWK ht1 ht5 hF1 hF2 hxs hsm
        obtain ⟨s0, hs0⟩ : ∃ s0, beginS H = s0 := ⟨_, rfl⟩
        rw [hs0] at hF1 hF2 hF3 hF4 hF5 ht5 hd8 HRU HNX
        obtain ⟨L, hL⟩ : ∃ L, (xs.map fun c => ((c : Nat) : Int)) = L := ⟨_, rfl⟩
        obtain ⟨Y, hY⟩ : ∃ Y, (ys.map fun c => ((c : Nat) : Int)) = Y := ⟨_, rfl⟩
        rw [hL] at hF1 hF2 HWK
        rw [hY] at hF3 hF4 hF5
        obtain ⟨n, hn⟩ : ∃ n, xs.length = n := ⟨_, rfl⟩
        obtain ⟨k, hk⟩ : ∃ k, ys.length = k := ⟨_, rfl⟩
        have hnk : n = k + 1 := by rw [← hn, hxs, List.length_append, hk]; rfl
        have hk8 : k ≤ 7 := by omega
        have hLn : L.length = n := by rw [← hL, List.length_map, hn]
        have hYk : Y.length = k := by rw [← hY, List.length_map, hk]
        have hLY : L = Y ++ [((c : Nat) : Int)] := by rw [← hL, ← hY, hxs]; simp
        have hL63 : ∀ c ∈ L, c ≤ 20000 := fun z hz => by rw [← hL] at hz; obtain ⟨x, hx, rfl⟩ := List.mem_map.1 hz; have := hsm x hx; omega
        have hY63 : ∀ c ∈ Y, c ≤ 20000 := fun z hz => hL63 z (by rw [hLY]; exact List.mem_append_left _ hz)
        have hL1 : ∀ z ∈ L, z ≤ 9223372036854775807 := fun z hz => by have := hL63 z hz; omega
        have hY1 : ∀ z ∈ Y, z ≤ 9223372036854775807 := fun z hz => by have := hY63 z hz; omega
        have hL0 : ∀ z ∈ L ++ [0], z ≤ 9223372036854775807 := fun z hz => by
          rcases List.mem_append.1 hz with hz | hz
          · exact hL1 z hz
          · have e : z = 0 := by simpa using hz
            omega
        have hYn : ∀ z ∈ Y ++ [((nn : Nat) : Int)], z ≤ 9223372036854775807 := fun z hz => by
          rcases List.mem_append.1 hz with hz | hz
          · exact hY1 z hz
          · have e : z = ((nn : Nat) : Int) := by simpa using hz
            omega
        rw [hn] at hF2
        rw [hk] at hF4 hF5
        have HF := hid (show fulN H s0 L = .ok t ∧ fulN H s0 (L ++ [0]) = .bad n 5 ∧ folN H s0 Y 0 = .ok s' ∧ chN H s' = nn ∧ fulN H s0 (Y ++ [((nn : Nat) : Int)]) = .bad k 20 ∧ fulN H s0 Y = .bad k 7 ∧ outN H t = o from ⟨hF1, hF2, hF3, hch3, hF4, hF5, ho⟩)
        have hn0 : (((n : Nat) : Int) == 0) = false := by simp; omega
        have hn0' : ¬ n = 0 := by omega
        have hol : decide (o < 0) = false := decide_eq_false (by omega)
        have hol' : ¬ o < 0 := by omega
        have hom : decide (((m : Nat) : Int) ≤ o) = false := decide_eq_false (by omega)
        have hom' : ¬ ((m : Nat) : Int) ≤ o := by omega
        have hkw : IntKind.i64.wrap (((n : Nat) : Int) - 1) = ((k : Nat) : Int) := (IntWalk.i64_in _ (by omega)).trans (by omega)
        have hcn1 : decide (((nn : Nat) : Int) ≤ ((c : Nat) : Int)) = false := decide_eq_false (by omega)
        have hcn2 : ¬ ((nn : Nat) : Int) ≤ ((c : Nat) : Int) := by omega
        have hkn : ((k : Nat) : Int) < ((n : Nat) : Int) := by omega
        have HNK := hid (show n = k + 1 ∧ L.length = n ∧ Y.length = k ∧ L = Y ++ [((c : Nat) : Int)] from ⟨hnk, hLn, hYk, hLY⟩)
        have hk0 : (0 : Int) ≤ ((k : Nat) : Int) := by omega
        subst hue
        clear hbig hsm hfe hce hrf hrc hch hok hV ht1 ht2 ht3 ht4 ht5 hxs hF1 hF2 hF3 hF4 hF5 hch3 ho hm hxx hs0 hL hY hn hk hnk hLn hYk hLY hn0' hlf hlc hd8
        rw [hg] at HX HB
        go_enter Try.func9, Try.ntmps9
        go_upto_region 6 with (first
          | (refine wpList_value rfl (by intro c hc; cases hc) (.agg (handR (rawOf H) fv cv)) (exec_ldR rfl rfl HX.out) ?_)
          | (go_at_call 11; refine (HLG.out _).mono ?_; rintro e w1 ⟨rfl, hb1⟩; have HB := hid (HB.out.trans (hb1.mono (by simp; omega))); have HX := hid (heap_below hb1 HX.out (heap_lt HX.out)))
          | (go_at_call 15; refine (HOW.out _ HB.out).mono ?_; rintro e w2 ⟨f1, c1, rfl, hf1, hc1, hb2⟩; have HB := hid (HB.out.trans (hb2.mono (by have := heap_lt HX.out; omega))); have HX := hid (heap_below hb2 HX.out (heap_lt HX.out)))
          | (go_at_call 27; refine (HOC.out f1 c1 w2 hf1 hc1).mono ?_; rintro e w3 ⟨rfl, hb3⟩; have HB := hid (HB.out.trans (hb3.mono (by have := heap_lt HX.out; omega))); have HX := hid (heap_below hb3 HX.out (heap_lt HX.out))))
        have hgs3 : g < w3.heap.size := heap_lt HX.out
        go_upto_region 7 with (first
          | (refine wpList_value rfl (by intro c hc; cases hc) (.agg (handR (rawOf H) fv cv)) (exec_ldR rfl rfl HX.out) ?_)
          | (go_at_call 28; refine (HWK.out _ HB.out).mono ?_; rintro e w4 ⟨u, rfl, hu4, hb4⟩))
        obtain ⟨q, cap, rfl, hcap, hgq⟩ := hu4.form (by have := HNK.out; omega)
        rw [HNK.out.2.1] at hu4 hcap ⊢
        have HI := hid (show LwI g w (rawOf H) fv cv (.slice (some ⟨q, 0, none⟩) n cap) L w4 from ⟨HB.out.trans (hb4.mono (by omega)), heap_below hb4 HX.out hgs3, hu4.mono (by omega)⟩)
        have hcap0 : 0 < cap := by have := HNK.out; omega
        have hkc : k ≤ cap := by have := HNK.out; omega
        clear hu4 hb4 HX HB hcap hgq
        go_upto_region 10 with (first
          | (refine wpList_value rfl (by intro c hc; cases hc) (.agg (handR (rawOf H) fv cv)) (exec_ldR rfl rfl HI.out.hx) ?_)
          | (go_at_call 15; refine (HOW.out _ HI.out.bel).mono ?_; rintro e w5 ⟨f5, c5, rfl, hf5, hc5, hb5⟩; have HI5 := hid (HI.out.below hb5))
          | (go_at_call 25; refine (ints_c _ L _ HI5.out.hu.readsA (by have := HNK.out; omega)).mono ?_; rintro e w6 ⟨v6, rfl, hv6, hb6⟩; have HI6 := hid (HI5.out.below hb6))
          | (go_at_call 29; refine (HRU.out L (by have := HNK.out; omega) hL1 f5 c5 v6 w6 (hf5.below hb6) (hc5.below hb6) hv6.readsA).mono ?_; rintro e w7 ⟨rfl, hb7⟩; rw [HF.out.1]; simp only [runV, HF.out.2.2.2.2.2.2]; have HI := hid (HI6.out.below hb7); clear hf5 hc5 hv6 hb5 hb6 hb7 HI5 HI6))
        go_upto_region 13 with (first
          | (refine wpList_value rfl (by intro c hc; cases hc) (.agg (handR (rawOf H) fv cv)) (exec_ldR rfl rfl HI.out.hx) ?_)
          | (go_at_call 15; refine (HOW.out _ HI.out.bel).mono ?_; rintro e w8 ⟨f8, c8, rfl, hf8, hc8, hb8⟩; have HI8 := hid (HI.out.below hb8))
          | (go_at_call 25; refine (ints_c _ L _ HI8.out.hu.readsA (by have := HNK.out; omega)).mono ?_; rintro e w9 ⟨v9, rfl, hv9, hb9⟩; have hbL : Below w9.heap.size w9 (w9.alloc (.cells #[.int .i64 0] 3)) := (Below.refl _ _).alloc (Nat.le_refl _) _; have hvL := hv9.below hbL; have hcL : (w9.alloc (.cells #[.int .i64 0] 3)).cell? ⟨w9.heap.size, 0, none⟩ = some (.int .i64 0) := Boxed.cell (show Boxed _ _ 3 _ from heap_alloc_new w9 _); have hb9L := hb9.trans (hbL.mono hb9.size); have HI9 := hid (HI8.out.below hb9L); clear hbL)
          | (refine wp_append_int rfl (.tmp 70) (.tmp 71) rfl w8.heap.size v9 L rfl hvL 0 w9.heap.size 1 rfl hcL (by have := HNK.out; omega) hb9L.size ?_; intro v10 w10 hv10 hG10; have hb10 := hb9L.grown hG10 hb9L.size (fun k hk => (hvL.own k hk).1); have HI10 := hid (HI8.out.below hb10); clear hvL hcL)
          | (go_at_call 29; refine (HRU.out (L ++ [0]) (by have := HNK.out; rw [List.length_append]; simp only [List.length_cons, List.length_nil]; omega) hL0 f8 c8 v10 w10 (hf8.below hb10) (hc8.below hb10) hv10.readsA).mono ?_; rintro e w11 ⟨rfl, hb11⟩; rw [HF.out.2.1]; simp only [runV]; have HI := hid (HI10.out.below hb11); clear hf8 hc8 hv9 hv10 hb8 hb9 hb9L hb10 hb11 HI8 HI9 HI10))
        go_upto_region 16 with fail
        refine regD (fun Y => Y.heap[g]? = some (.cells (handR (rawOf H) fv cv) 26 (0, 0))) (fun _ => true) (by kernel_rfl) ?_
        have HI := hid (HI.out.below (W' := w11.drew) ⟨rfl, rfl, rfl, Nat.le_refl _, fun _ _ => rfl⟩)
        refine takeE (i := 0) (.agg (handR (rawOf H) fv cv)) (d := some 89) rfl (by kernel_rfl) (by kernel_rfl) (by kernel_rfl) (by kernel_rfl) (fun _ _ _ h => h) rfl (fun Y hY => by exact exec_ldR rfl rfl hY) HI.out.hx rfl ?_
        simp only [Act.put, List.setIfInBounds_toArray, List.set_cons_zero, List.set_cons_succ]
        refine takeE (i := 2) (.slice (some ⟨q, 0, none⟩) n cap) (d := some 91) rfl (by kernel_rfl) (by kernel_rfl) (by kernel_rfl) (by kernel_rfl) (fun _ _ _ h => h) rfl (fun Y hY => by exact rfl) HI.out.hx rfl ?_
        simp only [Act.put, List.setIfInBounds_toArray, List.set_cons_zero, List.set_cons_succ]
        refine takeE (i := 3) (.int .i64 ((k : Nat) : Int)) (d := some 92) rfl (by kernel_rfl) (by kernel_rfl) (by kernel_rfl) (by kernel_rfl) (fun _ _ _ h => h) rfl (fun Y hY => by exact rfl) HI.out.hx rfl ?_
        simp only [Act.put, List.setIfInBounds_toArray, List.set_cons_zero, List.set_cons_succ]
        refine takeE (i := 4) (.slice (some ⟨q, 0, none⟩) k cap) (d := some 93) rfl (by kernel_rfl) (by kernel_rfl) (by kernel_rfl) (by kernel_rfl) (fun _ _ _ h => h) rfl (fun Y hY => by exact exec_slc rfl rfl rfl hkc hcap0) HI.out.hx rfl ?_
        simp only [Act.put, List.setIfInBounds_toArray, List.set_cons_zero, List.set_cons_succ]
        refine stepD 1 (by kernel_rfl) rfl rfl (fun K hK => ?_)
        go_simp
        go_at_call 15
        refine (HOW.out _ HI.out.bel).mono ?_
        rintro e w12 ⟨fx, cx, rfl, hfx, hcx, hbx⟩
        have HI := hid (HI.out.below hbx)
        go_simp
        refine hK _ _ (fun _ => HI.out.hx) ?_
        clear hK K hbx
        refine stepD 5 (by kernel_rfl) rfl rfl (fun K hK => ?_)
        go_simp
        go_at_call 25
        refine (ints_c _ Y _ (by have h := HI.out.hu.part k (by have := HNK.out; omega); rw [HNK.out.2.2.2, List.take_left' HNK.out.2.2.1] at h; exact h) (by have := HNK.out; omega)).mono ?_
        rintro e w13 ⟨y13, rfl, hy13, hby⟩
        have HI := hid (HI.out.below hby)
        have hfy := hfx.below hby
        have hcy := hcx.below hby
        go_simp
        refine hK _ _ (fun _ => HI.out.hx) ?_
        clear hK K hby hfx hcx
        refine stepD 6 (by kernel_rfl) rfl rfl (fun K hK => ?_)
        go_simp
        go_at_call 32
        refine (HNX.out Y (by have := HNK.out; omega) hY1 _ _ _ _ hfy hcy hy13.readsA).mono ?_
        rintro e w14 ⟨rfl, hbz⟩
        rw [HF.out.2.2.1]
        simp only [runV, nextV, HF.out.2.2.2.1]
        have HI := hid (HI.out.below hbz)
        go_simp
        refine hK _ _ (fun _ => HI.out.hx) ?_
        clear hK K hbz hfy hcy
        refine takeE (i := 7) (.tuple #[.int .i64 ((nn : Nat) : Int), .int .i64 0, .int .i64 0]) (d := some 88) rfl (by kernel_rfl) (by kernel_rfl) (by kernel_rfl) (by kernel_rfl) (fun _ _ _ h => h) rfl (fun Y hY => by exact rfl) HI.out.hx rfl ?_
        simp only [Act.put, List.setIfInBounds_toArray, List.set_cons_zero, List.set_cons_succ]
        refine takeE (i := 8) (.int .i64 ((nn : Nat) : Int)) (d := some 96) rfl (by kernel_rfl) (by kernel_rfl) (by kernel_rfl) (by kernel_rfl) (fun _ _ _ h => h) rfl (fun Y hY => by exact rfl) HI.out.hx rfl ?_
        simp only [Act.put, List.setIfInBounds_toArray, List.set_cons_zero, List.set_cons_succ]
        refine takeE (i := 9) (.int .i64 0) (d := some 97) rfl (by kernel_rfl) (by kernel_rfl) (by kernel_rfl) (by kernel_rfl) (fun _ _ _ h => h) rfl (fun Y hY => by exact rfl) HI.out.hx rfl ?_
        simp only [Act.put, List.setIfInBounds_toArray, List.set_cons_zero, List.set_cons_succ]
        refine takeE (i := 10) (.int .i64 0) (d := some 98) rfl (by kernel_rfl) (by kernel_rfl) (by kernel_rfl) (by kernel_rfl) (fun _ _ _ h => h) rfl (fun Y hY => by exact rfl) HI.out.hx rfl ?_
        simp only [Act.put, List.setIfInBounds_toArray, List.set_cons_zero, List.set_cons_succ]
        refine takeE (i := 11) (.int .i64 ((nn : Nat) : Int)) (d := some 13) rfl (by kernel_rfl) (by kernel_rfl) (by kernel_rfl) (by kernel_rfl) (fun _ _ _ h => h) rfl (fun Y hY => by exact rfl) HI.out.hx rfl ?_
        simp only [Act.put, List.setIfInBounds_toArray, List.set_cons_zero, List.set_cons_succ]
        refine takeE (i := 12) (.int .i64 0) (d := some 14) rfl (by kernel_rfl) (by kernel_rfl) (by kernel_rfl) (by kernel_rfl) (fun _ _ _ h => h) rfl (fun Y hY => by exact rfl) HI.out.hx rfl ?_
        simp only [Act.put, List.setIfInBounds_toArray, List.set_cons_zero, List.set_cons_succ]
        refine takeE (i := 13) (.int .i64 0) (d := some 6) rfl (by kernel_rfl) (by kernel_rfl) (by kernel_rfl) (by kernel_rfl) (fun _ _ _ h => h) rfl (fun Y hY => by exact rfl) HI.out.hx rfl ?_
        simp only [Act.put, List.setIfInBounds_toArray, List.set_cons_zero, List.set_cons_succ]
        refine doneD (by kernel_rfl) ?_ _
        refine OnlyNorm.normal ?_
        have ck : w14.cell? ⟨q, k, none⟩ = some (.int .i64 ((c : Nat) : Int)) := by
          have h := HI.out.hu.at k (by have := HNK.out; omega)
          rw [h]
          congr 2
          have h2 := HNK.out
          simp only [h2.2.2.2, List.getElem_append_right (show Y.length ≤ k by omega), h2.2.2.1]
          simp
        go_upto_region 19 with fail
        refine regD (fun Y => Y.heap[g]? = some (.cells (handR (rawOf H) fv cv) 26 (0, 0))) (fun _ => true) (by kernel_rfl) ?_
        have HI := hid (HI.out.below (W' := w14.drew) ⟨rfl, rfl, rfl, Nat.le_refl _, fun _ _ => rfl⟩)
        obtain ⟨x0, hx0⟩ : ∃ x0, w14.drew = x0 := ⟨_, rfl⟩
        rw [hx0] at HI ⊢
        clear hx0 ck
        refine takeE (i := 0) (.agg (handR (rawOf H) fv cv)) (d := some 110) rfl (by kernel_rfl) (by kernel_rfl) (by kernel_rfl) (by kernel_rfl) (fun _ _ _ h => h) rfl (fun Y hY => by exact exec_ldR rfl rfl hY) HI.out.hx rfl ?_
        simp only [Act.put, List.setIfInBounds_toArray, List.set_cons_zero, List.set_cons_succ]
        refine takeE (i := 2) (.slice (some ⟨q, 0, none⟩) n cap) (d := some 112) rfl (by kernel_rfl) (by kernel_rfl) (by kernel_rfl) (by kernel_rfl) (fun _ _ _ h => h) rfl (fun Y hY => by exact rfl) HI.out.hx rfl ?_
        simp only [Act.put, List.setIfInBounds_toArray, List.set_cons_zero, List.set_cons_succ]
        refine takeE (i := 3) (.int .i64 ((k : Nat) : Int)) (d := some 113) rfl (by kernel_rfl) (by kernel_rfl) (by kernel_rfl) (by kernel_rfl) (fun _ _ _ h => h) rfl (fun Y hY => by exact rfl) HI.out.hx rfl ?_
        simp only [Act.put, List.setIfInBounds_toArray, List.set_cons_zero, List.set_cons_succ]
        refine takeE (i := 4) (.slice (some ⟨q, 0, none⟩) k cap) (d := some 114) rfl (by kernel_rfl) (by kernel_rfl) (by kernel_rfl) (by kernel_rfl) (fun _ _ _ h => h) rfl (fun Y hY => by exact exec_slc rfl rfl rfl hkc hcap0) HI.out.hx rfl ?_
        simp only [Act.put, List.setIfInBounds_toArray, List.set_cons_zero, List.set_cons_succ]
        refine takeE (i := 6) (.int .i64 ((nn : Nat) : Int)) (d := some 116) rfl (by kernel_rfl) (by kernel_rfl) (by kernel_rfl) (by kernel_rfl) (fun _ _ _ h => h) rfl (fun Y hY => by exact rfl) HI.out.hx rfl ?_
        simp only [Act.put, List.setIfInBounds_toArray, List.set_cons_zero, List.set_cons_succ]
        refine stepD2 1 7 (by kernel_rfl) rfl rfl rfl rfl (fun K hK => ?_) (fun K hK => ?_)
        · skip
          go_simp
          go_at_call 15
          refine (HOW.out _ HI.out.bel).mono ?_
          rintro e x1 ⟨fx, cx, rfl, hfx, hcx, hbx⟩
          have HI := hid (HI.out.below hbx)
          go_simp
          refine hK _ _ (fun _ => HI.out.hx) ?_
          clear hK K hbx
          refine stepD2 5 7 (by kernel_rfl) rfl rfl rfl rfl (fun K hK => ?_) (fun K hK => ?_)
          · skip
            go_simp
            go_at_call 25
            have HIb := HI
            have hfb := hfx
            have hcb := hcx
            clear hfx hcx
            refine (ints_c _ Y _ (by have h := HI.out.hu.part k (by have := HNK.out; omega); rw [HNK.out.2.2.2, List.take_left' HNK.out.2.2.1] at h; exact h) (by have := HNK.out; omega)).mono ?_
            rintro e x2 ⟨vy, rfl, hvy, hbB⟩
            have HI := hid (HI.out.below hbB)
            go_simp
            refine hK _ _ (fun _ => HI.out.hx) ?_
            clear hK K
            refine stepD 7 (by kernel_rfl) rfl rfl (fun K hK => ?_)
            go_simp
            have hbx : Below x2.heap.size x2 (x2.alloc (.cells #[.int .i64 ((nn : Nat) : Int)] 3)) := (Below.refl _ _).alloc (Nat.le_refl _) _
            have hz := heap_alloc_new x2 (.cells #[.int .i64 ((nn : Nat) : Int)] 3)
            have HI := hid (HI.out.below hbx)
            have hvy := hvy.below hbx
            have hbB := hbB.trans (hbx.mono hbB.size)
            obtain ⟨z, hze⟩ : ∃ z, x2.heap.size = z := ⟨_, rfl⟩
            rw [hze] at hz ⊢
            obtain ⟨x3, hx3⟩ : ∃ x3, x2.alloc (.cells #[.int .i64 ((nn : Nat) : Int)] 3) = x3 := ⟨_, rfl⟩
            rw [hx3] at hz HI hvy hbB ⊢
            clear hbx hx3 hze
            refine hK _ _ (fun _ => HI.out.hx) ?_
            clear hK K
            refine stepD 8 (by kernel_rfl) rfl rfl (fun K hK => ?_)
            have hcz : x3.cell? ⟨z, 0, none⟩ = some (.int .i64 ((nn : Nat) : Int)) := Boxed.cell (show Boxed _ z 3 _ from hz)
            refine wpO_append_int (.tmp 115) (.tmp 117) rfl x1.heap.size vy Y rfl hvy ((nn : Nat) : Int) z 1 rfl hcz (by have := HNK.out; omega) hbB.size (fun vq x4 hvq hG => ?_)
            have hbB := hbB.grown hG hbB.size (fun k hk => (hvy.own k hk).1)
            have HI := hid (HIb.out.below hbB)
            have hfx := hfb.below hbB
            have hcx := hcb.below hbB
            simp only [Act.put, List.setIfInBounds_toArray, List.set_cons_zero, List.set_cons_succ]
            refine hK _ _ (fun _ => HI.out.hx) ?_
            clear hK K hG hz hcz hvy HIb hfb hcb hbB
            refine stepD 9 (by kernel_rfl) rfl rfl (fun K hK => ?_)
            go_simp
            go_at_call 29
            refine (HRU.out (Y ++ [((nn : Nat) : Int)]) (by have := HNK.out; rw [List.length_append]; simp only [List.length_cons, List.length_nil]; omega) hYn _ _ _ _ hfx hcx hvq.readsA).mono ?_
            rintro e x5 ⟨rfl, hbz⟩
            rw [HF.out.2.2.2.2.1]
            simp only [runV]
            have HI := hid (HI.out.below hbz)
            go_simp
            refine hK _ _ (fun _ => HI.out.hx) ?_
            clear hK K hbz hfx hcx hvq
            refine takeE (i := 10) (.tuple #[.int .i64 0, .int .i64 ((k : Nat) : Int), .int .i64 20]) (d := some 109) rfl (by kernel_rfl) (by kernel_rfl) (by kernel_rfl) (by kernel_rfl) (fun _ _ _ h => h) rfl (fun Y hY => by exact rfl) HI.out.hx rfl ?_
            simp only [Act.put, List.setIfInBounds_toArray, List.set_cons_zero, List.set_cons_succ]
            refine takeE (i := 11) (.int .i64 0) (d := some 120) rfl (by kernel_rfl) (by kernel_rfl) (by kernel_rfl) (by kernel_rfl) (fun _ _ _ h => h) rfl (fun Y hY => by exact rfl) HI.out.hx rfl ?_
            simp only [Act.put, List.setIfInBounds_toArray, List.set_cons_zero, List.set_cons_succ]
            refine takeE (i := 12) (.int .i64 ((k : Nat) : Int)) (d := some 121) rfl (by kernel_rfl) (by kernel_rfl) (by kernel_rfl) (by kernel_rfl) (fun _ _ _ h => h) rfl (fun Y hY => by exact rfl) HI.out.hx rfl ?_
            simp only [Act.put, List.setIfInBounds_toArray, List.set_cons_zero, List.set_cons_succ]
            refine takeE (i := 13) (.int .i64 20) (d := some 122) rfl (by kernel_rfl) (by kernel_rfl) (by kernel_rfl) (by kernel_rfl) (fun _ _ _ h => h) rfl (fun Y hY => by exact rfl) HI.out.hx rfl ?_
            simp only [Act.put, List.setIfInBounds_toArray, List.set_cons_zero, List.set_cons_succ]
            refine takeE (i := 14) (.int .i64 ((k : Nat) : Int)) (d := some 11) rfl (by kernel_rfl) (by kernel_rfl) (by kernel_rfl) (by kernel_rfl) (fun _ _ _ h => h) rfl (fun Y hY => by exact rfl) HI.out.hx rfl ?_
            simp only [Act.put, List.setIfInBounds_toArray, List.set_cons_zero, List.set_cons_succ]
            refine takeE (i := 15) (.int .i64 20) (d := some 6) rfl (by kernel_rfl) (by kernel_rfl) (by kernel_rfl) (by kernel_rfl) (fun _ _ _ h => h) rfl (fun Y hY => by exact rfl) HI.out.hx rfl ?_
            simp only [Act.put, List.setIfInBounds_toArray, List.set_cons_zero, List.set_cons_succ]
            refine doneD (by kernel_rfl) ?_ _
            refine OnlyNorm.normal ?_
            go_upto_region 22 with fail
            refine regD (fun Y => Y.heap[g]? = some (.cells (handR (rawOf H) fv cv) 26 (0, 0))) (fun _ => true) (by kernel_rfl) ?_
            have HI := hid (HI.out.below (W' := x5.drew) ⟨rfl, rfl, rfl, Nat.le_refl _, fun _ _ => rfl⟩)
            refine takeE (i := 0) (.agg (handR (rawOf H) fv cv)) (d := some 131) rfl (by kernel_rfl) (by kernel_rfl) (by kernel_rfl) (by kernel_rfl) (fun _ _ _ h => h) rfl (fun Y hY => by exact exec_ldR rfl rfl hY) HI.out.hx rfl ?_
            simp only [Act.put, List.setIfInBounds_toArray, List.set_cons_zero, List.set_cons_succ]
            refine takeE (i := 2) (.slice (some ⟨q, 0, none⟩) n cap) (d := some 133) rfl (by kernel_rfl) (by kernel_rfl) (by kernel_rfl) (by kernel_rfl) (fun _ _ _ h => h) rfl (fun Y hY => by exact rfl) HI.out.hx rfl ?_
            simp only [Act.put, List.setIfInBounds_toArray, List.set_cons_zero, List.set_cons_succ]
            refine takeE (i := 3) (.int .i64 ((k : Nat) : Int)) (d := some 134) rfl (by kernel_rfl) (by kernel_rfl) (by kernel_rfl) (by kernel_rfl) (fun _ _ _ h => h) rfl (fun Y hY => by exact rfl) HI.out.hx rfl ?_
            simp only [Act.put, List.setIfInBounds_toArray, List.set_cons_zero, List.set_cons_succ]
            refine takeE (i := 4) (.slice (some ⟨q, 0, none⟩) k cap) (d := some 135) rfl (by kernel_rfl) (by kernel_rfl) (by kernel_rfl) (by kernel_rfl) (fun _ _ _ h => h) rfl (fun Y hY => by exact exec_slc rfl rfl rfl hkc hcap0) HI.out.hx rfl ?_
            simp only [Act.put, List.setIfInBounds_toArray, List.set_cons_zero, List.set_cons_succ]
            refine stepD 1 (by kernel_rfl) rfl rfl (fun K hK => ?_)
            go_simp
            go_at_call 15
            refine (HOW.out _ HI.out.bel).mono ?_
            rintro e y1 ⟨fx, cx, rfl, hfx, hcx, hbx⟩
            have HI := hid (HI.out.below hbx)
            go_simp
            refine hK _ _ (fun _ => HI.out.hx) ?_
            clear hK K hbx
            refine stepD 5 (by kernel_rfl) rfl rfl (fun K hK => ?_)
            go_simp
            go_at_call 25
            refine (ints_c _ Y _ (by have h := HI.out.hu.part k (by have := HNK.out; omega); rw [HNK.out.2.2.2, List.take_left' HNK.out.2.2.1] at h; exact h) (by have := HNK.out; omega)).mono ?_
            rintro e y2 ⟨vy, rfl, hvy, hby⟩
            have HI := hid (HI.out.below hby)
            have hfy := hfx.below hby
            have hcy := hcx.below hby
            go_simp
            refine hK _ _ (fun _ => HI.out.hx) ?_
            clear hK K hby hfx hcx
            refine stepD 6 (by kernel_rfl) rfl rfl (fun K hK => ?_)
            go_simp
            go_at_call 29
            refine (HRU.out Y (by have := HNK.out; omega) hY1 _ _ _ _ hfy hcy hvy.readsA).mono ?_
            rintro e y3 ⟨rfl, hbz⟩
            rw [HF.out.2.2.2.2.2.1]
            simp only [runV]
            have HI := hid (HI.out.below hbz)
            go_simp
            refine hK _ _ (fun _ => HI.out.hx) ?_
            clear hK K hbz hfy hcy hvy
            refine takeE (i := 7) (.tuple #[.int .i64 0, .int .i64 ((k : Nat) : Int), .int .i64 7]) (d := some 130) rfl (by kernel_rfl) (by kernel_rfl) (by kernel_rfl) (by kernel_rfl) (fun _ _ _ h => h) rfl (fun Y hY => by exact rfl) HI.out.hx rfl ?_
            simp only [Act.put, List.setIfInBounds_toArray, List.set_cons_zero, List.set_cons_succ]
            refine takeE (i := 8) (.int .i64 0) (d := some 138) rfl (by kernel_rfl) (by kernel_rfl) (by kernel_rfl) (by kernel_rfl) (fun _ _ _ h => h) rfl (fun Y hY => by exact rfl) HI.out.hx rfl ?_
            simp only [Act.put, List.setIfInBounds_toArray, List.set_cons_zero, List.set_cons_succ]
            refine takeE (i := 9) (.int .i64 ((k : Nat) : Int)) (d := some 139) rfl (by kernel_rfl) (by kernel_rfl) (by kernel_rfl) (by kernel_rfl) (fun _ _ _ h => h) rfl (fun Y hY => by exact rfl) HI.out.hx rfl ?_
            simp only [Act.put, List.setIfInBounds_toArray, List.set_cons_zero, List.set_cons_succ]
            refine takeE (i := 10) (.int .i64 7) (d := some 140) rfl (by kernel_rfl) (by kernel_rfl) (by kernel_rfl) (by kernel_rfl) (fun _ _ _ h => h) rfl (fun Y hY => by exact rfl) HI.out.hx rfl ?_
            simp only [Act.put, List.setIfInBounds_toArray, List.set_cons_zero, List.set_cons_succ]
            refine takeE (i := 11) (.int .i64 ((k : Nat) : Int)) (d := some 11) rfl (by kernel_rfl) (by kernel_rfl) (by kernel_rfl) (by kernel_rfl) (fun _ _ _ h => h) rfl (fun Y hY => by exact rfl) HI.out.hx rfl ?_
            simp only [Act.put, List.setIfInBounds_toArray, List.set_cons_zero, List.set_cons_succ]
            refine takeE (i := 12) (.int .i64 7) (d := some 6) rfl (by kernel_rfl) (by kernel_rfl) (by kernel_rfl) (by kernel_rfl) (fun _ _ _ h => h) rfl (fun Y hY => by exact rfl) HI.out.hx rfl ?_
            simp only [Act.put, List.setIfInBounds_toArray, List.set_cons_zero, List.set_cons_succ]
            refine doneD (by kernel_rfl) ?_ _
            refine OnlyNorm.normal ?_
            go_wp2_with (go_at_call 12; refine (known_c _).mono ?_; rintro e y4 ⟨rfl, hb4⟩; have HI := hid (HI.out.below hb4))
            go_ret
            exact ⟨rfl, by rw [hg]; exact HI.out.bel⟩
          · skip
            go_simp
            have hbx : Below x1.heap.size x1 (x1.alloc (.cells #[.int .i64 ((nn : Nat) : Int)] 3)) := (Below.refl _ _).alloc (Nat.le_refl _) _
            have hz := heap_alloc_new x1 (.cells #[.int .i64 ((nn : Nat) : Int)] 3)
            have HI := hid (HI.out.below hbx)
            have hfx := hfx.below hbx
            have hcx := hcx.below hbx
            obtain ⟨z, hze⟩ : ∃ z, x1.heap.size = z := ⟨_, rfl⟩
            rw [hze] at hz ⊢
            obtain ⟨x2, hx2⟩ : ∃ x2, x1.alloc (.cells #[.int .i64 ((nn : Nat) : Int)] 3) = x2 := ⟨_, rfl⟩
            rw [hx2] at hz HI hfx hcx ⊢
            clear hbx hx2 hze
            refine hK _ _ (fun _ => HI.out.hx) ?_
            clear hK K
            refine stepD 5 (by kernel_rfl) rfl rfl (fun K hK => ?_)
            go_simp
            go_at_call 25
            have HIb := HI
            have hfb := hfx
            have hcb := hcx
            clear hfx hcx
            refine (ints_c _ Y _ (by have h := HI.out.hu.part k (by have := HNK.out; omega); rw [HNK.out.2.2.2, List.take_left' HNK.out.2.2.1] at h; exact h) (by have := HNK.out; omega)).mono ?_
            rintro e x3 ⟨vy, rfl, hvy, hbB⟩
            have HI := hid (HI.out.below hbB)
            have hz := heap_below hbB hz (heap_lt hz)
            go_simp
            refine hK _ _ (fun _ => HI.out.hx) ?_
            clear hK K
            refine stepD 8 (by kernel_rfl) rfl rfl (fun K hK => ?_)
            have hcz : x3.cell? ⟨z, 0, none⟩ = some (.int .i64 ((nn : Nat) : Int)) := Boxed.cell (show Boxed _ z 3 _ from hz)
            refine wpO_append_int (.tmp 115) (.tmp 117) rfl x2.heap.size vy Y rfl hvy ((nn : Nat) : Int) z 1 rfl hcz (by have := HNK.out; omega) hbB.size (fun vq x4 hvq hG => ?_)
            have hbB := hbB.grown hG hbB.size (fun k hk => (hvy.own k hk).1)
            have HI := hid (HIb.out.below hbB)
            have hfx := hfb.below hbB
            have hcx := hcb.below hbB
            simp only [Act.put, List.setIfInBounds_toArray, List.set_cons_zero, List.set_cons_succ]
            refine hK _ _ (fun _ => HI.out.hx) ?_
            clear hK K hG hz hcz hvy HIb hfb hcb hbB
            refine stepD 9 (by kernel_rfl) rfl rfl (fun K hK => ?_)
            go_simp
            go_at_call 29
            refine (HRU.out (Y ++ [((nn : Nat) : Int)]) (by have := HNK.out; rw [List.length_append]; simp only [List.length_cons, List.length_nil]; omega) hYn _ _ _ _ hfx hcx hvq.readsA).mono ?_
            rintro e x5 ⟨rfl, hbz⟩
            rw [HF.out.2.2.2.2.1]
            simp only [runV]
            have HI := hid (HI.out.below hbz)
            go_simp
            refine hK _ _ (fun _ => HI.out.hx) ?_
            clear hK K hbz hfx hcx hvq
            refine takeE (i := 10) (.tuple #[.int .i64 0, .int .i64 ((k : Nat) : Int), .int .i64 20]) (d := some 109) rfl (by kernel_rfl) (by kernel_rfl) (by kernel_rfl) (by kernel_rfl) (fun _ _ _ h => h) rfl (fun Y hY => by exact rfl) HI.out.hx rfl ?_
            simp only [Act.put, List.setIfInBounds_toArray, List.set_cons_zero, List.set_cons_succ]
            refine takeE (i := 11) (.int .i64 0) (d := some 120) rfl (by kernel_rfl) (by kernel_rfl) (by kernel_rfl) (by kernel_rfl) (fun _ _ _ h => h) rfl (fun Y hY => by exact rfl) HI.out.hx rfl ?_
            simp only [Act.put, List.setIfInBounds_toArray, List.set_cons_zero, List.set_cons_succ]
            refine takeE (i := 12) (.int .i64 ((k : Nat) : Int)) (d := some 121) rfl (by kernel_rfl) (by kernel_rfl) (by kernel_rfl) (by kernel_rfl) (fun _ _ _ h => h) rfl (fun Y hY => by exact rfl) HI.out.hx rfl ?_
            simp only [Act.put, List.setIfInBounds_toArray, List.set_cons_zero, List.set_cons_succ]
            refine takeE (i := 13) (.int .i64 20) (d := some 122) rfl (by kernel_rfl) (by kernel_rfl) (by kernel_rfl) (by kernel_rfl) (fun _ _ _ h => h) rfl (fun Y hY => by exact rfl) HI.out.hx rfl ?_
            simp only [Act.put, List.setIfInBounds_toArray, List.set_cons_zero, List.set_cons_succ]
            refine takeE (i := 14) (.int .i64 ((k : Nat) : Int)) (d := some 11) rfl (by kernel_rfl) (by kernel_rfl) (by kernel_rfl) (by kernel_rfl) (fun _ _ _ h => h) rfl (fun Y hY => by exact rfl) HI.out.hx rfl ?_
            simp only [Act.put, List.setIfInBounds_toArray, List.set_cons_zero, List.set_cons_succ]
            refine takeE (i := 15) (.int .i64 20) (d := some 6) rfl (by kernel_rfl) (by kernel_rfl) (by kernel_rfl) (by kernel_rfl) (fun _ _ _ h => h) rfl (fun Y hY => by exact rfl) HI.out.hx rfl ?_
            simp only [Act.put, List.setIfInBounds_toArray, List.set_cons_zero, List.set_cons_succ]
            refine doneD (by kernel_rfl) ?_ _
            refine OnlyNorm.normal ?_
            go_upto_region 22 with fail
            refine regD (fun Y => Y.heap[g]? = some (.cells (handR (rawOf H) fv cv) 26 (0, 0))) (fun _ => true) (by kernel_rfl) ?_
            have HI := hid (HI.out.below (W' := x5.drew) ⟨rfl, rfl, rfl, Nat.le_refl _, fun _ _ => rfl⟩)
            refine takeE (i := 0) (.agg (handR (rawOf H) fv cv)) (d := some 131) rfl (by kernel_rfl) (by kernel_rfl) (by kernel_rfl) (by kernel_rfl) (fun _ _ _ h => h) rfl (fun Y hY => by exact exec_ldR rfl rfl hY) HI.out.hx rfl ?_
            simp only [Act.put, List.setIfInBounds_toArray, List.set_cons_zero, List.set_cons_succ]
            refine takeE (i := 2) (.slice (some ⟨q, 0, none⟩) n cap) (d := some 133) rfl (by kernel_rfl) (by kernel_rfl) (by kernel_rfl) (by kernel_rfl) (fun _ _ _ h => h) rfl (fun Y hY => by exact rfl) HI.out.hx rfl ?_
            simp only [Act.put, List.setIfInBounds_toArray, List.set_cons_zero, List.set_cons_succ]
            refine takeE (i := 3) (.int .i64 ((k : Nat) : Int)) (d := some 134) rfl (by kernel_rfl) (by kernel_rfl) (by kernel_rfl) (by kernel_rfl) (fun _ _ _ h => h) rfl (fun Y hY => by exact rfl) HI.out.hx rfl ?_
            simp only [Act.put, List.setIfInBounds_toArray, List.set_cons_zero, List.set_cons_succ]
            refine takeE (i := 4) (.slice (some ⟨q, 0, none⟩) k cap) (d := some 135) rfl (by kernel_rfl) (by kernel_rfl) (by kernel_rfl) (by kernel_rfl) (fun _ _ _ h => h) rfl (fun Y hY => by exact exec_slc rfl rfl rfl hkc hcap0) HI.out.hx rfl ?_
            simp only [Act.put, List.setIfInBounds_toArray, List.set_cons_zero, List.set_cons_succ]
            refine stepD 1 (by kernel_rfl) rfl rfl (fun K hK => ?_)
            go_simp
            go_at_call 15
            refine (HOW.out _ HI.out.bel).mono ?_
            rintro e y1 ⟨fx, cx, rfl, hfx, hcx, hbx⟩
            have HI := hid (HI.out.below hbx)
            go_simp
            refine hK _ _ (fun _ => HI.out.hx) ?_
            clear hK K hbx
            refine stepD 5 (by kernel_rfl) rfl rfl (fun K hK => ?_)
            go_simp
            go_at_call 25
            refine (ints_c _ Y _ (by have h := HI.out.hu.part k (by have := HNK.out; omega); rw [HNK.out.2.2.2, List.take_left' HNK.out.2.2.1] at h; exact h) (by have := HNK.out; omega)).mono ?_
            rintro e y2 ⟨vy, rfl, hvy, hby⟩
            have HI := hid (HI.out.below hby)
            have hfy := hfx.below hby
            have hcy := hcx.below hby
            go_simp
            refine hK _ _ (fun _ => HI.out.hx) ?_
            clear hK K hby hfx hcx
            refine stepD 6 (by kernel_rfl) rfl rfl (fun K hK => ?_)
            go_simp
            go_at_call 29
            refine (HRU.out Y (by have := HNK.out; omega) hY1 _ _ _ _ hfy hcy hvy.readsA).mono ?_
            rintro e y3 ⟨rfl, hbz⟩
            rw [HF.out.2.2.2.2.2.1]
            simp only [runV]
            have HI := hid (HI.out.below hbz)
            go_simp
            refine hK _ _ (fun _ => HI.out.hx) ?_
            clear hK K hbz hfy hcy hvy
            refine takeE (i := 7) (.tuple #[.int .i64 0, .int .i64 ((k : Nat) : Int), .int .i64 7]) (d := some 130) rfl (by kernel_rfl) (by kernel_rfl) (by kernel_rfl) (by kernel_rfl) (fun _ _ _ h => h) rfl (fun Y hY => by exact rfl) HI.out.hx rfl ?_
            simp only [Act.put, List.setIfInBounds_toArray, List.set_cons_zero, List.set_cons_succ]
            refine takeE (i := 8) (.int .i64 0) (d := some 138) rfl (by kernel_rfl) (by kernel_rfl) (by kernel_rfl) (by kernel_rfl) (fun _ _ _ h => h) rfl (fun Y hY => by exact rfl) HI.out.hx rfl ?_
            simp only [Act.put, List.setIfInBounds_toArray, List.set_cons_zero, List.set_cons_succ]
            refine takeE (i := 9) (.int .i64 ((k : Nat) : Int)) (d := some 139) rfl (by kernel_rfl) (by kernel_rfl) (by kernel_rfl) (by kernel_rfl) (fun _ _ _ h => h) rfl (fun Y hY => by exact rfl) HI.out.hx rfl ?_
            simp only [Act.put, List.setIfInBounds_toArray, List.set_cons_zero, List.set_cons_succ]
            refine takeE (i := 10) (.int .i64 7) (d := some 140) rfl (by kernel_rfl) (by kernel_rfl) (by kernel_rfl) (by kernel_rfl) (fun _ _ _ h => h) rfl (fun Y hY => by exact rfl) HI.out.hx rfl ?_
            simp only [Act.put, List.setIfInBounds_toArray, List.set_cons_zero, List.set_cons_succ]
            refine takeE (i := 11) (.int .i64 ((k : Nat) : Int)) (d := some 11) rfl (by kernel_rfl) (by kernel_rfl) (by kernel_rfl) (by kernel_rfl) (fun _ _ _ h => h) rfl (fun Y hY => by exact rfl) HI.out.hx rfl ?_
            simp only [Act.put, List.setIfInBounds_toArray, List.set_cons_zero, List.set_cons_succ]
            refine takeE (i := 12) (.int .i64 7) (d := some 6) rfl (by kernel_rfl) (by kernel_rfl) (by kernel_rfl) (by kernel_rfl) (fun _ _ _ h => h) rfl (fun Y hY => by exact rfl) HI.out.hx rfl ?_
            simp only [Act.put, List.setIfInBounds_toArray, List.set_cons_zero, List.set_cons_succ]
            refine doneD (by kernel_rfl) ?_ _
            refine OnlyNorm.normal ?_
            go_wp2_with (go_at_call 12; refine (known_c _).mono ?_; rintro e y4 ⟨rfl, hb4⟩; have HI := hid (HI.out.below hb4))
            go_ret
            exact ⟨rfl, by rw [hg]; exact HI.out.bel⟩
        · skip
          go_simp
          have hbx : Below x0.heap.size x0 (x0.alloc (.cells #[.int .i64 ((nn : Nat) : Int)] 3)) := (Below.refl _ _).alloc (Nat.le_refl _) _
          have hz := heap_alloc_new x0 (.cells #[.int .i64 ((nn : Nat) : Int)] 3)
          have HI := hid (HI.out.below hbx)
          obtain ⟨z, hze⟩ : ∃ z, x0.heap.size = z := ⟨_, rfl⟩
          rw [hze] at hz ⊢
          obtain ⟨x1, hx1⟩ : ∃ x1, x0.alloc (.cells #[.int .i64 ((nn : Nat) : Int)] 3) = x1 := ⟨_, rfl⟩
          rw [hx1] at hz HI ⊢
          clear hbx hx1 hze
          refine hK _ _ (fun _ => HI.out.hx) ?_
          clear hK K
          refine stepD 1 (by kernel_rfl) rfl rfl (fun K hK => ?_)
          go_simp
          go_at_call 15
          refine (HOW.out _ HI.out.bel).mono ?_
          rintro e x2 ⟨fx, cx, rfl, hfx, hcx, hbx⟩
          have HI := hid (HI.out.below hbx)
          have hz := heap_below hbx hz (heap_lt hz)
          go_simp
          refine hK _ _ (fun _ => HI.out.hx) ?_
          clear hK K hbx
          refine stepD 5 (by kernel_rfl) rfl rfl (fun K hK => ?_)
          go_simp
          go_at_call 25
          have HIb := HI
          have hfb := hfx
          have hcb := hcx
          clear hfx hcx
          refine (ints_c _ Y _ (by have h := HI.out.hu.part k (by have := HNK.out; omega); rw [HNK.out.2.2.2, List.take_left' HNK.out.2.2.1] at h; exact h) (by have := HNK.out; omega)).mono ?_
          rintro e x3 ⟨vy, rfl, hvy, hbB⟩
          have HI := hid (HI.out.below hbB)
          have hz := heap_below hbB hz (heap_lt hz)
          go_simp
          refine hK _ _ (fun _ => HI.out.hx) ?_
          clear hK K
          refine stepD 8 (by kernel_rfl) rfl rfl (fun K hK => ?_)
          have hcz : x3.cell? ⟨z, 0, none⟩ = some (.int .i64 ((nn : Nat) : Int)) := Boxed.cell (show Boxed _ z 3 _ from hz)
          refine wpO_append_int (.tmp 115) (.tmp 117) rfl x2.heap.size vy Y rfl hvy ((nn : Nat) : Int) z 1 rfl hcz (by have := HNK.out; omega) hbB.size (fun vq x4 hvq hG => ?_)
          have hbB := hbB.grown hG hbB.size (fun k hk => (hvy.own k hk).1)
          have HI := hid (HIb.out.below hbB)
          have hfx := hfb.below hbB
          have hcx := hcb.below hbB
          simp only [Act.put, List.setIfInBounds_toArray, List.set_cons_zero, List.set_cons_succ]
          refine hK _ _ (fun _ => HI.out.hx) ?_
          clear hK K hG hz hcz hvy HIb hfb hcb hbB
          refine stepD 9 (by kernel_rfl) rfl rfl (fun K hK => ?_)
          go_simp
          go_at_call 29
          refine (HRU.out (Y ++ [((nn : Nat) : Int)]) (by have := HNK.out; rw [List.length_append]; simp only [List.length_cons, List.length_nil]; omega) hYn _ _ _ _ hfx hcx hvq.readsA).mono ?_
          rintro e x5 ⟨rfl, hbz⟩
          rw [HF.out.2.2.2.2.1]
          simp only [runV]
          have HI := hid (HI.out.below hbz)
          go_simp
          refine hK _ _ (fun _ => HI.out.hx) ?_
          clear hK K hbz hfx hcx hvq
          refine takeE (i := 10) (.tuple #[.int .i64 0, .int .i64 ((k : Nat) : Int), .int .i64 20]) (d := some 109) rfl (by kernel_rfl) (by kernel_rfl) (by kernel_rfl) (by kernel_rfl) (fun _ _ _ h => h) rfl (fun Y hY => by exact rfl) HI.out.hx rfl ?_
          simp only [Act.put, List.setIfInBounds_toArray, List.set_cons_zero, List.set_cons_succ]
          refine takeE (i := 11) (.int .i64 0) (d := some 120) rfl (by kernel_rfl) (by kernel_rfl) (by kernel_rfl) (by kernel_rfl) (fun _ _ _ h => h) rfl (fun Y hY => by exact rfl) HI.out.hx rfl ?_
          simp only [Act.put, List.setIfInBounds_toArray, List.set_cons_zero, List.set_cons_succ]
          refine takeE (i := 12) (.int .i64 ((k : Nat) : Int)) (d := some 121) rfl (by kernel_rfl) (by kernel_rfl) (by kernel_rfl) (by kernel_rfl) (fun _ _ _ h => h) rfl (fun Y hY => by exact rfl) HI.out.hx rfl ?_
          simp only [Act.put, List.setIfInBounds_toArray, List.set_cons_zero, List.set_cons_succ]
          refine takeE (i := 13) (.int .i64 20) (d := some 122) rfl (by kernel_rfl) (by kernel_rfl) (by kernel_rfl) (by kernel_rfl) (fun _ _ _ h => h) rfl (fun Y hY => by exact rfl) HI.out.hx rfl ?_
          simp only [Act.put, List.setIfInBounds_toArray, List.set_cons_zero, List.set_cons_succ]
          refine takeE (i := 14) (.int .i64 ((k : Nat) : Int)) (d := some 11) rfl (by kernel_rfl) (by kernel_rfl) (by kernel_rfl) (by kernel_rfl) (fun _ _ _ h => h) rfl (fun Y hY => by exact rfl) HI.out.hx rfl ?_
          simp only [Act.put, List.setIfInBounds_toArray, List.set_cons_zero, List.set_cons_succ]
          refine takeE (i := 15) (.int .i64 20) (d := some 6) rfl (by kernel_rfl) (by kernel_rfl) (by kernel_rfl) (by kernel_rfl) (fun _ _ _ h => h) rfl (fun Y hY => by exact rfl) HI.out.hx rfl ?_
          simp only [Act.put, List.setIfInBounds_toArray, List.set_cons_zero, List.set_cons_succ]
          refine doneD (by kernel_rfl) ?_ _
          refine OnlyNorm.normal ?_
          go_upto_region 22 with fail
          refine regD (fun Y => Y.heap[g]? = some (.cells (handR (rawOf H) fv cv) 26 (0, 0))) (fun _ => true) (by kernel_rfl) ?_
          have HI := hid (HI.out.below (W' := x5.drew) ⟨rfl, rfl, rfl, Nat.le_refl _, fun _ _ => rfl⟩)
          refine takeE (i := 0) (.agg (handR (rawOf H) fv cv)) (d := some 131) rfl (by kernel_rfl) (by kernel_rfl) (by kernel_rfl) (by kernel_rfl) (fun _ _ _ h => h) rfl (fun Y hY => by exact exec_ldR rfl rfl hY) HI.out.hx rfl ?_
          simp only [Act.put, List.setIfInBounds_toArray, List.set_cons_zero, List.set_cons_succ]
          refine takeE (i := 2) (.slice (some ⟨q, 0, none⟩) n cap) (d := some 133) rfl (by kernel_rfl) (by kernel_rfl) (by kernel_rfl) (by kernel_rfl) (fun _ _ _ h => h) rfl (fun Y hY => by exact rfl) HI.out.hx rfl ?_
          simp only [Act.put, List.setIfInBounds_toArray, List.set_cons_zero, List.set_cons_succ]
          refine takeE (i := 3) (.int .i64 ((k : Nat) : Int)) (d := some 134) rfl (by kernel_rfl) (by kernel_rfl) (by kernel_rfl) (by kernel_rfl) (fun _ _ _ h => h) rfl (fun Y hY => by exact rfl) HI.out.hx rfl ?_
          simp only [Act.put, List.setIfInBounds_toArray, List.set_cons_zero, List.set_cons_succ]
          refine takeE (i := 4) (.slice (some ⟨q, 0, none⟩) k cap) (d := some 135) rfl (by kernel_rfl) (by kernel_rfl) (by kernel_rfl) (by kernel_rfl) (fun _ _ _ h => h) rfl (fun Y hY => by exact exec_slc rfl rfl rfl hkc hcap0) HI.out.hx rfl ?_
          simp only [Act.put, List.setIfInBounds_toArray, List.set_cons_zero, List.set_cons_succ]
          refine stepD 1 (by kernel_rfl) rfl rfl (fun K hK => ?_)
          go_simp
          go_at_call 15
          refine (HOW.out _ HI.out.bel).mono ?_
          rintro e y1 ⟨fx, cx, rfl, hfx, hcx, hbx⟩
          have HI := hid (HI.out.below hbx)
          go_simp
          refine hK _ _ (fun _ => HI.out.hx) ?_
          clear hK K hbx
          refine stepD 5 (by kernel_rfl) rfl rfl (fun K hK => ?_)
          go_simp
          go_at_call 25
          refine (ints_c _ Y _ (by have h := HI.out.hu.part k (by have := HNK.out; omega); rw [HNK.out.2.2.2, List.take_left' HNK.out.2.2.1] at h; exact h) (by have := HNK.out; omega)).mono ?_
          rintro e y2 ⟨vy, rfl, hvy, hby⟩
          have HI := hid (HI.out.below hby)
          have hfy := hfx.below hby
          have hcy := hcx.below hby
          go_simp
          refine hK _ _ (fun _ => HI.out.hx) ?_
          clear hK K hby hfx hcx
          refine stepD 6 (by kernel_rfl) rfl rfl (fun K hK => ?_)
          go_simp
          go_at_call 29
          refine (HRU.out Y (by have := HNK.out; omega) hY1 _ _ _ _ hfy hcy hvy.readsA).mono ?_
          rintro e y3 ⟨rfl, hbz⟩
          rw [HF.out.2.2.2.2.2.1]
          simp only [runV]
          have HI := hid (HI.out.below hbz)
          go_simp
          refine hK _ _ (fun _ => HI.out.hx) ?_
          clear hK K hbz hfy hcy hvy
          refine takeE (i := 7) (.tuple #[.int .i64 0, .int .i64 ((k : Nat) : Int), .int .i64 7]) (d := some 130) rfl (by kernel_rfl) (by kernel_rfl) (by kernel_rfl) (by kernel_rfl) (fun _ _ _ h => h) rfl (fun Y hY => by exact rfl) HI.out.hx rfl ?_
          simp only [Act.put, List.setIfInBounds_toArray, List.set_cons_zero, List.set_cons_succ]
          refine takeE (i := 8) (.int .i64 0) (d := some 138) rfl (by kernel_rfl) (by kernel_rfl) (by kernel_rfl) (by kernel_rfl) (fun _ _ _ h => h) rfl (fun Y hY => by exact rfl) HI.out.hx rfl ?_
          simp only [Act.put, List.setIfInBounds_toArray, List.set_cons_zero, List.set_cons_succ]
          refine takeE (i := 9) (.int .i64 ((k : Nat) : Int)) (d := some 139) rfl (by kernel_rfl) (by kernel_rfl) (by kernel_rfl) (by kernel_rfl) (fun _ _ _ h => h) rfl (fun Y hY => by exact rfl) HI.out.hx rfl ?_
          simp only [Act.put, List.setIfInBounds_toArray, List.set_cons_zero, List.set_cons_succ]
          refine takeE (i := 10) (.int .i64 7) (d := some 140) rfl (by kernel_rfl) (by kernel_rfl) (by kernel_rfl) (by kernel_rfl) (fun _ _ _ h => h) rfl (fun Y hY => by exact rfl) HI.out.hx rfl ?_
          simp only [Act.put, List.setIfInBounds_toArray, List.set_cons_zero, List.set_cons_succ]
          refine takeE (i := 11) (.int .i64 ((k : Nat) : Int)) (d := some 11) rfl (by kernel_rfl) (by kernel_rfl) (by kernel_rfl) (by kernel_rfl) (fun _ _ _ h => h) rfl (fun Y hY => by exact rfl) HI.out.hx rfl ?_
          simp only [Act.put, List.setIfInBounds_toArray, List.set_cons_zero, List.set_cons_succ]
          refine takeE (i := 12) (.int .i64 7) (d := some 6) rfl (by kernel_rfl) (by kernel_rfl) (by kernel_rfl) (by kernel_rfl) (fun _ _ _ h => h) rfl (fun Y hY => by exact rfl) HI.out.hx rfl ?_
          simp only [Act.put, List.setIfInBounds_toArray, List.set_cons_zero, List.set_cons_succ]
          refine doneD (by kernel_rfl) ?_ _
          refine OnlyNorm.normal ?_
          go_wp2_with (go_at_call 12; refine (known_c _).mono ?_; rintro e y4 ⟨rfl, hb4⟩; have HI := hid (HI.out.below hb4))
          go_ret
          exact ⟨rfl, by rw [hg]; exact HI.out.bel⟩
      · have hok' : okR R = false := by simpa using hok
        have HOC := hid (fun f c W (h1 : ReadsF W f R.faces) (h2 : ReadsA W c R.cards) => Outcomes_no R hok' f c W.heap.size W (RawAt.came h1 h2) (by omega) (by omega))
        subst hue
        clear hbig hsm hfe hce hrf hrc hch hok hok'
        rw [hg] at HX HB
        go_enter Try.func9, Try.ntmps9
        go_wp2_with (first
          | (refine wpList_value rfl (by intro c hc; cases hc) (.agg (handR R fv cv)) (exec_ldR rfl rfl HX.out) ?_)
          | (go_at_call 11; refine (HLG.out _).mono ?_; rintro e w1 ⟨rfl, hb1⟩; have HX := hid (heap_below hb1 HX.out (heap_lt HX.out)); have HB := hid (HB.out.trans (hb1.mono (by simp; omega))))
          | (go_at_call 15; refine (HOW.out _ HB.out).mono ?_; rintro e w2 ⟨f1, c1, rfl, hf1, hc1, hb2⟩; have HB2 := hid (HB.out.trans (hb2.mono (by have := heap_lt HX.out; omega))); have hs2 : g < w2.heap.size := Nat.lt_of_lt_of_le (heap_lt HX.out) hb2.size)
          | (go_at_call 27; refine (HOC.out f1 c1 w2 hf1 hc1).mono ?_; rintro e w3 ⟨rfl, hb3⟩; have HB3 := hid (HB2.out.trans (hb3.mono (by omega))); have hs3 : g < w3.heap.size := Nat.lt_of_lt_of_le hs2 hb3.size)
          | (go_at_call 12; refine (known_c _).mono ?_; rintro e w4 ⟨rfl, hb4⟩))
        go_ret
        exact ⟨rfl, by rw [hg]; exact HB3.out.trans (hb4.mono (by omega))⟩
end Go.Proofs.Ytmjnelkeiogdcaa
