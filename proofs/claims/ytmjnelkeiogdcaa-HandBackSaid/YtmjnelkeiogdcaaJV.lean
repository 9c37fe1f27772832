/- The law HandBack. -/
import Derived.Test.YtmjnelkeiogdcaaJU
namespace Go.Proofs.Ytmjnelkeiogdcaa
open Go Go.RowKit Go.Shelf
set_option maxRecDepth 100000

/-- Two lists of one length, in order: where they part. -/
theorem lex_diff : ∀ (A B : List Nat), A.length = B.length → lexL A B → ∃ d, ∃ (h1 : d < A.length) (h2 : d < B.length), A[d] < B[d] ∧ ∀ j, ∀ (hj : j < d), A[j]'(by omega) = B[j]'(by omega)
  | [], [], _, h => by simp [lexL] at h
  | [], _ :: _, hl, _ => by simp at hl
  | _ :: _, [], hl, _ => by simp at hl
  | a :: A, b :: B, hl, h => by
    rcases h with h | ⟨rfl, h⟩
    · exact ⟨0, by simp, by simp, h, fun j hj => absurd hj (by omega)⟩
    · obtain ⟨d, h1, h2, h3, h4⟩ := lex_diff A B (by simpa using hl) h
      refine ⟨d + 1, by simpa using h1, by simpa using h2, by simpa using h3, fun j hj => ?_⟩
      cases j with
      | zero => rfl
      | succ j => simpa using h4 j (by omega)
/-- What is so of a course and of the one behind it. -/
theorem back_facts (H : HV) (hO : Okh H) (xs : List Nat) (t : St) (hr : runN H (beginS H) xs = some t) (hl : xs.length = dep (beginS H)) :
    numT H (outN H t) (trN H (beginS H) (xs.map fun c => ((c : Nat) : Int))) < cntO H (outN H t) (beginS H) ∧
    nthN H (okO H (outN H t)) (dep (beginS H)) (beginS H) (numT H (outN H t) (trN H (beginS H) (xs.map fun c => ((c : Nat) : Int)))) = xs ∧
    (numT H (outN H t) (trN H (beginS H) (xs.map fun c => ((c : Nat) : Int))) + 1 < cntO H (outN H t) (beginS H) → ∃ ys : List Nat, nthN H (okO H (outN H t)) (dep (beginS H)) (beginS H) (numT H (outN H t) (trN H (beginS H) (xs.map fun c => ((c : Nat) : Int))) + 1) = ys ∧ ys.length = xs.length ∧ lexL xs ys) := by
  have hF := begin_fit H hO
  rw [num_rank H (outN H t) xs (beginS H) t hF hr]
  have hP : okO H (outN H t) t = true := by simp [okO]
  obtain ⟨h1, h2⟩ := rank_spec H (okO H (outN H t)) (dep (beginS H)) (beginS H) xs t hl hr hP
  have h3 := nth_spec H (okO H (outN H t)) (dep (beginS H)) (beginS H) _ h1
  rw [h2] at h3
  refine ⟨h1, (Option.some.inj h3).symm, fun h => ⟨_, rfl, ?_, ?_⟩⟩
  · have h4 := nth_spec H (okO H (outN H t)) (dep (beginS H)) (beginS H) _ h
    have := (crs_run H (okO H (outN H t)) (dep (beginS H)) (beginS H) _ (List.mem_of_getElem? h4)).1
    omega
  · have h4 := nth_spec H (okO H (outN H t)) (dep (beginS H)) (beginS H) _ h
    have hs := crs_sorted H (okO H (outN H t)) (dep (beginS H)) (beginS H)
    rw [List.pairwise_iff_getElem] at hs
    obtain ⟨i1, e1⟩ := List.getElem?_eq_some_iff.1 h2
    obtain ⟨i2, e2⟩ := List.getElem?_eq_some_iff.1 h4
    have := hs _ _ i1 i2 (by omega)
    rw [e1, e2] at this
    exact this
theorem exec_ixc {ev : Operand → Value} {o : Oper} {x y : Operand} {q m cap i : Nat} {W : World} (ho : o.op = .indexAddr 24 x y) (hx : ev x = .slice (some ⟨q, 0, none⟩) m cap) (hy : ev y = .int .i64 ((i : Nat) : Int)) (hi : i < m) :
    (execOp ev o).run Try.prog W = .ok (.value (.pointer (some ⟨q, i, none⟩))) W := by
  have h1 : ((i : Nat) : Int) < ((m : Nat) : Int) := by omega
  have h2 : (0 : Int) ≤ ((i : Nat) : Int) := by omega
  simp [execOp, ho, hx, hy]
  go_simp
theorem exec_gtN {ev : Operand → Value} {o : Oper} {x y : Operand} {a b : Nat} {W : World} (ho : o.op = .binOp .gtr 3 x y 3) (hx : ev x = .int .i64 ((a : Nat) : Int)) (hy : ev y = .int .i64 ((b : Nat) : Int)) (h : b < a) :
    (execOp ev o).run Try.prog W = .ok (.value (.bool true)) W := by
  have h1 : ((b : Nat) : Int) < ((a : Nat) : Int) := by omega
  simp [execOp, ho, hx, hy]
  go_simp
set_option maxHeartbeats 8000000 in
theorem back_c (R : RH) (fv cv : Value) (ch : List Nat) (v : Value) (w : World) (hrf : ReadsF w fv R.faces) (hrc : ReadsA w cv R.cards) (hch : ReadsU w v ch) :
    Calls Try.prog 7 #[.agg (handR R fv cv), v] w fun e w' => e = .returned (.bool true) ∧ Below w.heap.size w w' := by
  have hx := heap_alloc_new w (.cells (handR R fv cv) 26)
  have hb : Below w.heap.size w (w.alloc (.cells (handR R fv cv) 26)) := (Below.refl _ _).alloc (Nat.le_refl _) _
  have HX := hid hx
  have HB := hid hb
  obtain ⟨pf, cf, hfe⟩ := hrf.form
  obtain ⟨pc, cc, hce⟩ := hrc.form
  obtain ⟨pu, cu, hue⟩ := hch.form
  have HLG := hid (fun W => large_c R pf pc R.faces.length cf R.cards.length cc W)
  rw [← hfe, ← hce] at HLG
  obtain ⟨g, hg⟩ : ∃ g, w.heap.size = g := ⟨_, rfl⟩
  rw [hg] at HX HB
  clear hx hb
  by_cases hbig : 30 < R.faces.length ∨ 30 < R.cards.length
  · have hbg : (decide (30 < R.faces.length) || decide (30 < R.cards.length)) = true := by simpa using hbig
    rw [hbg] at HLG
    clear hbig hbg hfe hce hue hrf hrc hch
    go_enter Try.func7, Try.ntmps7
    go_wp2_with (first
      | (refine wpList_value rfl (by intro c hc; cases hc) (.agg (handR R fv cv)) (exec_ldR rfl rfl HX.out) ?_)
      | (go_at_call 11; refine (HLG.out _).mono ?_; rintro e w1 ⟨rfl, hb1⟩; have HB1 := hid (HB.out.trans (hb1.mono (by simp; omega))); have HX1 := hid (heap_below hb1 HX.out (heap_lt HX.out)); have ⟨k0, k1, k2, k3, k4, k5, k6, k7⟩ := cells8 HX1.out; have hg1 : g < w1.heap.size := heap_lt HX1.out)
      | (go_at_call 12; refine (known_c _).mono ?_; rintro e wk ⟨rfl, hbk⟩))
    go_ret
    exact ⟨rfl, by rw [hg]; exact HB1.out.trans (hbk.mono (by omega))⟩
  · have hsm : (decide (30 < R.faces.length) || decide (30 < R.cards.length)) = false := by simpa using hbig
    rw [hsm] at HLG
    have hlf : R.faces.length ≤ 30 := by omega
    have hlc : R.cards.length ≤ 30 := by omega
    obtain ⟨n0, hn0⟩ : ∃ n0, ch.length = n0 := ⟨_, rfl⟩
    rw [hn0] at hue
    by_cases hlong : 12 < n0
    · have hl1 : decide ((12 : Int) < ((n0 : Nat) : Int)) = true := decide_eq_true (by omega)
      have hl2 : (12 : Int) < ((n0 : Nat) : Int) := by omega
      subst hue
      clear hbig hsm hfe hce hrf hrc hch hlf hlc
      go_enter Try.func7, Try.ntmps7
      go_wp2_with (first
        | (refine wpList_value rfl (by intro c hc; cases hc) (.agg (handR R fv cv)) (exec_ldR rfl rfl HX.out) ?_)
        | (go_at_call 11; refine (HLG.out _).mono ?_; rintro e w1 ⟨rfl, hb1⟩; have HB1 := hid (HB.out.trans (hb1.mono (by simp; omega))); have HX1 := hid (heap_below hb1 HX.out (heap_lt HX.out)); have ⟨k0, k1, k2, k3, k4, k5, k6, k7⟩ := cells8 HX1.out; have hg1 : g < w1.heap.size := heap_lt HX1.out)
        | (go_at_call 12; refine (known_c _).mono ?_; rintro e wk ⟨rfl, hbk⟩))
      go_ret
      exact ⟨rfl, by rw [hg]; exact HB1.out.trans (hbk.mono (by omega))⟩
    · have hl1 : decide ((12 : Int) < ((n0 : Nat) : Int)) = false := decide_eq_false (by omega)
      have hl2 : ¬ (12 : Int) < ((n0 : Nat) : Int) := by omega
      have HOW := hid (fun W hW => own_r R fv cv w hrf hrc (by omega) (by omega) g hg W hW)
      by_cases hok : okR R = true
      · obtain ⟨H, rfl, hV⟩ : ∃ H, R = rawOf H ∧ Val H := ⟨toH R, (Val.of hok).2.symm, (Val.of hok).1⟩
        have HCK := hid (fun f c W (h1 : ReadsF W f (rawOf H).faces) (h2 : ReadsA W c (rawOf H).cards) => check_yes H hV f c W.heap.size W (RawAt.came h1 h2))
        by_cases hk3 : (rawOf H).kind = 4 ∧ 3 < (rawOf H).count
        · have q1 : ((rawOf H).kind == 4) = true := by simp [hk3.1]
          have q2 : decide (3 < (rawOf H).count) = true := decide_eq_true hk3.2
          have q3 : 3 < (rawOf H).count := hk3.2
          subst hue
          clear hbig hsm hfe hce hrf hrc hch hok hlf hlc hV hk3
          go_enter Try.func7, Try.ntmps7
          go_wp2_with (first
            | (refine wpList_value rfl (by intro c hc; cases hc) (.agg (handR (rawOf H) fv cv)) (exec_ldR rfl rfl HX.out) ?_)
            | (go_at_call 11; refine (HLG.out _).mono ?_; rintro e w1 ⟨rfl, hb1⟩; have HB1 := hid (HB.out.trans (hb1.mono (by simp; omega))); have HX1 := hid (heap_below hb1 HX.out (heap_lt HX.out)); have ⟨k0, k1, k2, k3, k4, k5, k6, k7⟩ := cells8 HX1.out; have hg1 : g < w1.heap.size := heap_lt HX1.out)
            | (go_at_call 15; refine (HOW.out _ HB1.out).mono ?_; rintro e w2 ⟨f1, c1, rfl, hf1, hc1, hb2⟩; have HB2 := hid (HB1.out.trans (hb2.mono (by omega))); have HX2 := hid (heap_below hb2 HX1.out (heap_lt HX1.out)); have hg2 : g < w2.heap.size := heap_lt HX2.out)
            | (go_at_call 26; refine (HCK.out f1 c1 w2 hf1 hc1).mono ?_; rintro e w3 ⟨rfl, hb3⟩; have HB3 := hid (HB2.out.trans (hb3.mono (by omega))); have HX3 := hid (heap_below hb3 HX2.out (heap_lt HX2.out)); have ⟨m0, m1, m2, m3, m4, m5, m6, m7⟩ := cells8 HX3.out; have hg3 : g < w3.heap.size := heap_lt HX3.out)
            | (go_at_call 12; refine (known_c _).mono ?_; rintro e wk ⟨rfl, hbk⟩))
          go_ret
          exact ⟨rfl, by rw [hg]; exact HB3.out.trans (hbk.mono (by omega))⟩
        · have HWK := hid (fun W (hW : Below g w W) => walk_c H hV fv cv ch v W (hrf.below (hg ▸ hW)) (hrc.below (hg ▸ hW)) (hch.below (hg ▸ hW)) (by omega))
          have HRU := hid (fun (L : List Int) (hl : L.length ≤ 1000) (h63 : ∀ c ∈ L, c ≤ 9223372036854775807) f c u W (h1 : ReadsF W f (rawOf H).faces) (h2 : ReadsA W c (rawOf H).cards) (h3 : ReadsA W u L) => Run_yes W.heap.size W.heap.size H hV f c u L (by omega) h63 W (RawAt.came h1 h2) (CrsAt.came h3))
          have HRK := hid (fun (L : List Int) (hl : L.length ≤ 1000) (h63 : ∀ c ∈ L, c ≤ 9223372036854775807) f c u W (h1 : ReadsF W f (rawOf H).faces) (h2 : ReadsA W c (rawOf H).cards) (h3 : ReadsA W u L) => Rank_yes W.heap.size W.heap.size H hV f c u L (by omega) h63 W (RawAt.came h1 h2) (CrsAt.came h3))
          obtain ⟨t, ht1, ht2, ht3, ht4, ht5⟩ := walk_run H ch (dep (beginS H)) (beginS H) 0 rfl (begin_fit H hV.hand.ok) hV.hand.last
          obtain ⟨hF1, ho1, ho2, -, -⟩ := course_facts H hV.hand.ok hV.hand.last _ t ht1 ht2 ht5 (dep_pos H hV.hand.ok)
          obtain ⟨hB1, hB2, hB3⟩ := back_facts H hV.hand.ok _ t ht1 ht5
          have hd8 := dep_le (begin_fit H hV.hand.ok)
          have hd1 := dep_pos H hV.hand.ok
          have hsm2 := run_small H _ _ t (begin_fit H hV.hand.ok) ht1
          have hml := outs_le H hV.hand.ok
          have hcl := cntO_le H (outN H t) (beginS H)
          have HCS := hid (fun f c W (h1 : ReadsF W f (rawOf H).faces) (h2 : ReadsA W c (rawOf H).cards) => Courses_yes H hV f c (outN H t) (by omega) W.heap.size W (RawAt.came h1 h2))
          have HNT := hid (fun (hall : cntO H (-1) (beginS H) ≤ 1000000000000000) (i : Nat) (hi : i < cntO H (outN H t) (beginS H)) f c W (h1 : ReadsF W f (rawOf H).faces) (h2 : ReadsA W c (rawOf H).cards) => callsIn_wide.1 (Nth_in 24 (by omega) H hV f c (outN H t) ⟨ho1, ho2⟩ hall i hi W.heap.size W (RawAt.came h1 h2)))
          have HNN := hid (fun (hall : cntO H (-1) (beginS H) ≤ 1000000000000000) (num : Int) (hi : ¬ (0 ≤ num ∧ num < ((cntO H (outN H t) (beginS H) : Nat) : Int))) f c W (h1 : ReadsF W f (rawOf H).faces) (h2 : ReadsA W c (rawOf H).cards) => callsIn_wide.1 (Nth_none H hV f c (outN H t) num ⟨ho1, ho2⟩ hall hi W.heap.size W (RawAt.came h1 h2)))
          obtain ⟨xs, hxx⟩ : ∃ xs, walkN H ch (dep (beginS H)) (beginS H) 0 = xs := ⟨_, rfl⟩
          rw [hxx] at HWK ht1 ht5 hF1 hB1 hB2 hB3 hsm2
          obtain ⟨L, hL⟩ : ∃ L, (xs.map fun c => ((c : Nat) : Int)) = L := ⟨_, rfl⟩
          rw [hL] at hF1 HWK hB1 hB2 hB3
          obtain ⟨n, hn⟩ : ∃ n, xs.length = n := ⟨_, rfl⟩
          have hLn : L.length = n := by rw [← hL, List.length_map, hn]
          have hL1 : ∀ z ∈ L, z ≤ 9223372036854775807 := fun z hz => by rw [← hL] at hz; obtain ⟨x, hx, rfl⟩ := List.mem_map.1 hz; have := hsm2 x hx; omega
          have hn0 : (((n : Nat) : Int) == 0) = false := by simp; omega
          have hn8 : n ≤ 8 := by omega
          have HNP := hid (show 1 ≤ n by omega)
          unfold crsR at HCS
          have hRK : ∀ hall : cntO H (-1) (beginS H) ≤ 1000000000000000, rankV H L = #[.int .i64 ((numT H (outN H t) (trN H (beginS H) L) : Nat) : Int), .int .i64 0, .int .i64 0] := fun hall => by unfold rankV; rw [hF1]; simp only; rw [if_pos hall]
          have hRK2 : ∀ hall : ¬ cntO H (-1) (beginS H) ≤ 1000000000000000, rankV H L = #[.int .i64 0, .int .i64 0, .int .i64 8] := fun hall => by unfold rankV; rw [hF1]; simp only; rw [if_neg hall]
          obtain ⟨s0, hs0⟩ : ∃ s0, beginS H = s0 := ⟨_, rfl⟩
          rw [hs0] at hF1 hB1 hB2 hB3 HCS HNT HNN hcl HRU
          simp only [hs0] at hRK hRK2
          obtain ⟨r, hr⟩ : ∃ r, numT H (outN H t) (trN H s0 L) = r := ⟨_, rfl⟩
          rw [hr] at hB1 hB2 hB3
          simp only [hr] at hRK
          obtain ⟨o, ho⟩ : ∃ o, outN H t = o := ⟨_, rfl⟩
          rw [ho] at ho1 ho2 hB1 hB2 hB3 HCS HNT HNN hcl
          rw [if_pos ⟨ho1, ho2⟩] at HCS
          obtain ⟨cn, hcn⟩ : ∃ cn, cntO H o s0 = cn := ⟨_, rfl⟩
          rw [hcn] at hB1 hB3 HCS HNT HNN hcl
          have HF := hid (show fulN H s0 L = .ok t ∧ outN H t = o from ⟨hF1, ho⟩)
          have HLN := hid (show L.length = n ∧ xs.length = n ∧ (xs.map fun c => ((c : Nat) : Int)) = L from ⟨hLn, hn, hL⟩)
          have HBF := hid (show r < cn ∧ nthN H (okO H o) (dep s0) s0 r = xs ∧ (r + 1 < cn → ∃ ys : List Nat, nthN H (okO H o) (dep s0) s0 (r + 1) = ys ∧ ys.length = xs.length ∧ lexL xs ys) from ⟨hB1, hB2, hB3⟩)
          have ho3 : decide (o < 0) = false := decide_eq_false (by omega)
          have hr1 : decide (((r : Nat) : Int) < 0) = false := decide_eq_false (by omega)
          have hr2 : decide (((cn : Nat) : Int) ≤ ((r : Nat) : Int)) = false := decide_eq_false (by omega)
          have hr3 : ¬ ((r : Nat) : Int) < 0 := by omega
          have hr4 : ¬ ((cn : Nat) : Int) ≤ ((r : Nat) : Int) := by omega
          subst hue
          clear hbig hsm hfe hce hrf hrc hch hok hlf hlc hV ht1 ht2 ht3 ht4 ht5 hF1 hB1 hB2 hB3 hsm2 hxx hLn hL hn hs0 hr ho hcn ho1 ho2
          by_cases hk4 : (rawOf H).kind = 4
          · have q1 : ((rawOf H).kind == 4) = true := by simp [hk4]
            have q2 : decide (3 < (rawOf H).count) = false := decide_eq_false (fun h => hk3 ⟨hk4, h⟩)
            have q3 : ¬ 3 < (rawOf H).count := fun h => hk3 ⟨hk4, h⟩
            clear hk3 hk4
            go_enter Try.func7, Try.ntmps7
            go_upto_region 3 with (first
              | (refine wpList_value rfl (by intro c hc; cases hc) (.agg (handR (rawOf H) fv cv)) (exec_ldR rfl rfl HX.out) ?_)
              | (go_at_call 11; refine (HLG.out _).mono ?_; rintro e w1 ⟨rfl, hb1⟩; have HB1 := hid (HB.out.trans (hb1.mono (by simp; omega))); have HX1 := hid (heap_below hb1 HX.out (heap_lt HX.out)); have ⟨k0, k1, k2, k3, k4, k5, k6, k7⟩ := cells8 HX1.out; have hg1 : g < w1.heap.size := heap_lt HX1.out)
              | (go_at_call 15; refine (HOW.out _ HB1.out).mono ?_; rintro e w2 ⟨f1, c1, rfl, hf1, hc1, hb2⟩; have HB2 := hid (HB1.out.trans (hb2.mono (by omega))); have HX2 := hid (heap_below hb2 HX1.out (heap_lt HX1.out)); have hg2 : g < w2.heap.size := heap_lt HX2.out)
              | (go_at_call 26; refine (HCK.out f1 c1 w2 hf1 hc1).mono ?_; rintro e w3 ⟨rfl, hb3⟩; have HB3 := hid (HB2.out.trans (hb3.mono (by omega))); have HX3 := hid (heap_below hb3 HX2.out (heap_lt HX2.out)); have ⟨m0, m1, m2, m3, m4, m5, m6, m7⟩ := cells8 HX3.out; have hg3 : g < w3.heap.size := heap_lt HX3.out))
            go_upto_region 4 with (first
              | (refine wpList_value rfl (by intro c hc; cases hc) (.agg (handR (rawOf H) fv cv)) (exec_ldR rfl rfl HX3.out) ?_)
              | (go_at_call 28; refine (HWK.out _ HB3.out).mono ?_; rintro e w4 ⟨u, rfl, hu4, hb4⟩))
            obtain ⟨q, cap, rfl, hcap, hgq⟩ := hu4.form (by have := HLN.out; have := HNP.out; omega)
            rw [HLN.out.1] at hu4 hcap ⊢
            have HI4 := hid (show LwI g w (rawOf H) fv cv (.slice (some ⟨q, 0, none⟩) n cap) L w4 from ⟨HB3.out.trans (hb4.mono (by omega)), heap_below hb4 HX3.out (heap_lt HX3.out), hu4.mono (by omega)⟩)
            clear hu4 hb4 HX HX1 HX2 HX3 HB HB1 HB2 HB3 hgq hb1 hb2 hb3 hf1 hc1 k0 k1 k2 k3 k4 k5 k6 k7 m0 m1 m2 m3 m4 m5 m6 m7
            go_upto_region 7 with (first
              | (refine wpList_value rfl (by intro c hc; cases hc) (.agg (handR (rawOf H) fv cv)) (exec_ldR rfl rfl HI4.out.hx) ?_)
              | (go_at_call 15; refine (HOW.out _ HI4.out.bel).mono ?_; rintro e w5 ⟨fx, cx, rfl, hfx, hcx, hbx⟩; have HI5 := hid (HI4.out.below hbx))
              | (go_at_call 25; refine (ints_c _ L _ HI5.out.hu.readsA (by have := HLN.out; omega)).mono ?_; rintro e w6 ⟨vx, rfl, hvx, hby⟩; have HI6 := hid (HI5.out.below hby))
              | (go_at_call 29; refine (HRU.out L (by have := HLN.out; omega) hL1 fx cx vx w6 (hfx.below hby) (hcx.below hby) hvx.readsA).mono ?_; rintro e w7 ⟨rfl, hbz⟩; rw [HF.out.1]; simp only [runV, HF.out.2]; have HI7 := hid (HI6.out.below hbz); clear hfx hcx hvx hbx hby hbz))
            by_cases hall : cntO H (-1) s0 ≤ 1000000000000000
            · skip
              rw [if_pos hall] at HCS
              have hRKh := hRK hall
              clear hRK hRK2
              go_upto_region 8 with (first
                | (refine wpList_value rfl (by intro c hc; cases hc) (.agg (handR (rawOf H) fv cv)) (exec_ldR rfl rfl HI7.out.hx) ?_)
                | (go_at_call 15; refine (HOW.out _ HI7.out.bel).mono ?_; rintro e w8 ⟨fx, cx, rfl, hfx, hcx, hbx⟩; have HI8 := hid (HI7.out.below hbx))
                | (go_at_call 20; refine (HCS.out fx cx w8 hfx hcx).mono ?_; rintro e w9 ⟨rfl, hbz⟩; have HI9 := hid (HI8.out.below hbz); clear hfx hcx hbx hbz))
              go_upto_region 13 with (first
                | (refine wpList_value rfl (by intro c hc; cases hc) (.agg (handR (rawOf H) fv cv)) (exec_ldR rfl rfl HI9.out.hx) ?_)
                | (go_at_call 15; refine (HOW.out _ HI9.out.bel).mono ?_; rintro e w10 ⟨fx, cx, rfl, hfx, hcx, hbx⟩; have HI10 := hid (HI9.out.below hbx))
                | (go_at_call 25; refine (ints_c _ L _ HI10.out.hu.readsA (by have := HLN.out; omega)).mono ?_; rintro e w11 ⟨vx, rfl, hvx, hby⟩; have HI11 := hid (HI10.out.below hby))
                | (go_at_call 24; refine (HRK.out L (by have := HLN.out; omega) hL1 fx cx vx w11 (hfx.below hby) (hcx.below hby) hvx.readsA).mono ?_; rintro e w12 ⟨rfl, hbz⟩; rw [hRKh]; have HI12 := hid (HI11.out.below hbz); clear hfx hcx hvx hbx hby hbz))
              go_upto_region 14 with (first
                | (refine wpList_value rfl (by intro c hc; cases hc) (.agg (handR (rawOf H) fv cv)) (exec_ldR rfl rfl HI12.out.hx) ?_)
                | (go_at_call 15; refine (HOW.out _ HI12.out.bel).mono ?_; rintro e w13 ⟨fx, cx, rfl, hfx, hcx, hbx⟩; have HI13 := hid (HI12.out.below hbx))
                | (go_at_call 21; refine (HNT.out hall r HBF.out.1 fx cx w13 hfx hcx).mono ?_; rintro e w14 ⟨bk, rfl, hbk, hbz⟩; rw [HBF.out.2.1, HLN.out.2.2] at hbk; have HI14 := hid (HI13.out.below hbz); have HBK := hid hbk; clear hfx hcx hbx hbz hbk))
              go_upto_region 16 with (go_at_call 18; refine (sam_t bk (.slice (some ⟨q, 0, none⟩) n cap) L _ HBK.out.reads HI14.out.hu.reads (by have := HLN.out; omega)).mono ?_; rintro e w15 ⟨rfl, hbz⟩; have HI15 := hid (HI14.out.below hbz); clear hbz HBK)
              have hr5 : IntKind.i64.wrap (((r : Nat) : Int) + 1) = ((r + 1 : Nat) : Int) := (IntWalk.i64_in _ (by omega)).trans (by omega)
              by_cases hnx : r + 1 < cn
              · skip
                have hr6 : (((r + 1 : Nat) : Int) == ((cn : Nat) : Int)) = false := by simp; omega
                obtain ⟨ys, hy1, hy2, hy3⟩ := HBF.out.2.2 hnx
                obtain ⟨r1, hr1e⟩ : ∃ r1, r + 1 = r1 := ⟨_, rfl⟩
                rw [hr1e] at hr5 hr6 hnx hy1
                have HY := hid (show nthN H (okO H o) (dep s0) s0 r1 = ys ∧ ys.length = n from ⟨hy1, hy2.trans HLN.out.2.1⟩)
                clear hr1e hy1
                go_upto_region 17 with (first
                  | (refine wpList_value rfl (by intro c hc; cases hc) (.agg (handR (rawOf H) fv cv)) (exec_ldR rfl rfl HI15.out.hx) ?_)
                  | (go_at_call 15; refine (HOW.out _ HI15.out.bel).mono ?_; rintro e w16 ⟨fx, cx, rfl, hfx, hcx, hbx⟩; have HI16 := hid (HI15.out.below hbx))
                  | (go_at_call 21; refine (HNT.out hall r1 hnx fx cx w16 hfx hcx).mono ?_; rintro e w17 ⟨nx, rfl, hnxt, hbz⟩; rw [HY.out.1] at hnxt; have hg16 : g < w16.heap.size := heap_lt HI16.out.hx; have HI17 := hid (HI16.out.below hbz); have HNX := hid (hnxt.mono (Nat.le_of_lt hg16)); clear hfx hcx hbx hbz hnxt hg16))
                obtain ⟨q2, cap2, rfl, hcap2, -⟩ := HNX.out.form (by rw [List.length_map]; have := HY.out.2; have := HNP.out; omega)
                rw [List.length_map, HY.out.2] at HNX hcap2 ⊢
                obtain ⟨d, hd1, hd2, hd3, hd4⟩ := lex_diff xs ys hy2.symm hy3
                have HD := hid (show _ ∧ _ from ⟨hd3, hd4⟩)
                have hdn : d < n := by have := HLN.out.2.1; omega
                have hneq : (((n : Nat) : Int) != ((n : Nat) : Int)) = false := by simp
                clear hy2 hy3 hd3 hd4
                go_wp2_with fail
                go_loopw [15] (fun ix wr => ∃ i : Nat, i ≤ d ∧ ix = .int .i64 ((i : Nat) : Int) ∧ LwI g w (rawOf H) fv cv (.slice (some ⟨q, 0, none⟩) n cap) L wr ∧ Ints wr g (.slice (some ⟨q2, 0, none⟩) n cap2) (ys.map fun c => ((c : Nat) : Int))) (fun ix _ => n - (intOf ix).toNat)
                case atStart => exact ⟨0, by omega, rfl, HI17.out, HNX.out⟩
                case round =>
                  obtain ⟨i, hid', rfl, hI, hN⟩ := hrel
                  have hin : decide (((i : Nat) : Int) < ((n : Nat) : Int)) = true := decide_eq_true (by omega)
                  have hin' : ((i : Nat) : Int) < ((n : Nat) : Int) := by omega
                  have hi0 : (0 : Int) ≤ ((i : Nat) : Int) := by omega
                  have hix : i < xs.length := by omega
                  have hiy : i < ys.length := by have := HY.out.2; omega
                  obtain ⟨x, hx⟩ : ∃ x, xs[i] = x := ⟨_, rfl⟩
                  obtain ⟨y, hy⟩ : ∃ y, ys[i] = y := ⟨_, rfl⟩
                  have c1 : ∀ Y, Ints Y g (.slice (some ⟨q, 0, none⟩) n cap) L → Y.cell? ⟨q, i, none⟩ = some (.int .i64 ((x : Nat) : Int)) := fun Y h => by
                    have := h.at i (by have := HLN.out; omega)
                    rw [this, ← hx]
                    congr 2
                    simp only [← HLN.out.2.2, List.getElem_map]
                  have c2 : ∀ Y, Ints Y g (.slice (some ⟨q2, 0, none⟩) n cap2) (ys.map fun c => ((c : Nat) : Int)) → Y.cell? ⟨q2, i, none⟩ = some (.int .i64 ((y : Nat) : Int)) := fun Y h => by
                    have := h.at i (by rw [List.length_map]; exact hiy)
                    rw [this, ← hy]
                    congr 2
                    simp only [List.getElem_map]
                  have d1 := c1 _ hI.hu
                  have d2 := c2 _ hN
                  have C1 := hid c1
                  have C2 := hid c2
                  have HI := hid hI
                  have HN := hid hN
                  have hio := hid hid'
                  clear c1 c2 hI hN
                  by_cases hed : i = d
                  · have hxy : x < y := by subst hed; rw [← hx, ← hy]; exact HD.out.1
                    have hb : (((y : Nat) : Int) != ((x : Nat) : Int)) = true := by simp; omega
                    clear hx hy hed
                    go_upto_region 24 with fail
                    go_quiet (fail)
                    go_upto_region 25 with fail
                    refine regD (fun Y => LwI g w (rawOf H) fv cv (.slice (some ⟨q, 0, none⟩) n cap) L Y ∧ Ints Y g (.slice (some ⟨q2, 0, none⟩) n cap2) (ys.map fun c => ((c : Nat) : Int))) (fun _ => true) (by kernel_rfl) ?_
                    have hbd : Below wr.heap.size wr (wr.drewN nq).drew := ⟨rfl, rfl, rfl, Nat.le_refl _, fun _ _ => rfl⟩
                    have hS0 : LwI g w (rawOf H) fv cv (.slice (some ⟨q, 0, none⟩) n cap) L (wr.drewN nq).drew ∧ Ints (wr.drewN nq).drew g (.slice (some ⟨q2, 0, none⟩) n cap2) (ys.map fun c => ((c : Nat) : Int)) := ⟨HI.out.below hbd, HN.out.below hbd⟩
                    clear hbd
                    refine takeE (i := 0) (.slice (some ⟨q2, 0, none⟩) n cap2) (d := some 173) rfl (by kernel_rfl) (by kernel_rfl) (by kernel_rfl) (by kernel_rfl) (fun _ _ _ h => h) rfl (fun Y hY => by exact rfl) hS0 rfl ?_
                    simp only [Act.put, List.setIfInBounds_toArray, List.set_cons_zero, List.set_cons_succ]
                    refine takeE (i := 1) (.int .i64 ((i : Nat) : Int)) (d := some 174) rfl (by kernel_rfl) (by kernel_rfl) (by kernel_rfl) (by kernel_rfl) (fun _ _ _ h => h) rfl (fun Y hY => by exact rfl) hS0 rfl ?_
                    simp only [Act.put, List.setIfInBounds_toArray, List.set_cons_zero, List.set_cons_succ]
                    refine takeE (i := 2) (.pointer (some ⟨q2, i, none⟩)) (d := some 175) rfl (by kernel_rfl) (by kernel_rfl) (by kernel_rfl) (by kernel_rfl) (fun _ _ _ h => h) rfl (fun Y hY => by exact exec_ixc rfl rfl rfl (by omega)) hS0 rfl ?_
                    simp only [Act.put, List.setIfInBounds_toArray, List.set_cons_zero, List.set_cons_succ]
                    refine takeE (i := 3) (.int .i64 ((y : Nat) : Int)) (d := some 176) rfl (by kernel_rfl) (by kernel_rfl) (by kernel_rfl) (by kernel_rfl) (fun _ _ _ h => h) rfl (fun Y hY => by exact exec_ldcell rfl rfl (C2.out _ hY.2)) hS0 rfl ?_
                    simp only [Act.put, List.setIfInBounds_toArray, List.set_cons_zero, List.set_cons_succ]
                    refine takeE (i := 4) (.slice (some ⟨q, 0, none⟩) n cap) (d := some 177) rfl (by kernel_rfl) (by kernel_rfl) (by kernel_rfl) (by kernel_rfl) (fun _ _ _ h => h) rfl (fun Y hY => by exact rfl) hS0 rfl ?_
                    simp only [Act.put, List.setIfInBounds_toArray, List.set_cons_zero, List.set_cons_succ]
                    refine takeE (i := 5) (.int .i64 ((i : Nat) : Int)) (d := some 178) rfl (by kernel_rfl) (by kernel_rfl) (by kernel_rfl) (by kernel_rfl) (fun _ _ _ h => h) rfl (fun Y hY => by exact rfl) hS0 rfl ?_
                    simp only [Act.put, List.setIfInBounds_toArray, List.set_cons_zero, List.set_cons_succ]
                    refine takeE (i := 6) (.pointer (some ⟨q, i, none⟩)) (d := some 179) rfl (by kernel_rfl) (by kernel_rfl) (by kernel_rfl) (by kernel_rfl) (fun _ _ _ h => h) rfl (fun Y hY => by exact exec_ixc rfl rfl rfl (by omega)) hS0 rfl ?_
                    simp only [Act.put, List.setIfInBounds_toArray, List.set_cons_zero, List.set_cons_succ]
                    refine takeE (i := 7) (.int .i64 ((x : Nat) : Int)) (d := some 180) rfl (by kernel_rfl) (by kernel_rfl) (by kernel_rfl) (by kernel_rfl) (fun _ _ _ h => h) rfl (fun Y hY => by exact exec_ldcell rfl rfl (C1.out _ hY.1.hu)) hS0 rfl ?_
                    simp only [Act.put, List.setIfInBounds_toArray, List.set_cons_zero, List.set_cons_succ]
                    refine takeE (i := 8) (.bool true) (d := some 181) rfl (by kernel_rfl) (by kernel_rfl) (by kernel_rfl) (by kernel_rfl) (fun _ _ _ h => h) rfl (fun Y hY => by exact exec_gtN rfl rfl rfl hxy) hS0 rfl ?_
                    simp only [Act.put, List.setIfInBounds_toArray, List.set_cons_zero, List.set_cons_succ]
                    refine takeE (i := 9) (.bool true) (d := some 182) rfl (by kernel_rfl) (by kernel_rfl) (by kernel_rfl) (by kernel_rfl) (fun _ _ _ h => h) rfl (fun Y hY => by exact rfl) hS0 rfl ?_
                    simp only [Act.put, List.setIfInBounds_toArray, List.set_cons_zero, List.set_cons_succ]
                    refine stepG 10 (by kernel_rfl) rfl rfl (fun K hK => ?_)
                    go_simp
                    go_at_call 12
                    refine (known_c _).mono ?_
                    rintro e wk ⟨rfl, hbk⟩
                    have hS0 : LwI g w (rawOf H) fv cv (.slice (some ⟨q, 0, none⟩) n cap) L wk ∧ Ints wk g (.slice (some ⟨q2, 0, none⟩) n cap2) (ys.map fun c => ((c : Nat) : Int)) := ⟨hS0.1.below hbk, hS0.2.below hbk⟩
                    go_simp
                    refine hK _ _ (fun _ => hS0) ?_
                    clear hK K
                    refine takeE (i := 11) (.bool true) (d := some 184) rfl (by kernel_rfl) (by kernel_rfl) (by kernel_rfl) (by kernel_rfl) (fun _ _ _ h => h) rfl (fun Y hY => by exact rfl) hS0 rfl ?_
                    simp only [Act.put, List.setIfInBounds_toArray, List.set_cons_zero, List.set_cons_succ]
                    refine takeE (i := 12) (.bool true) (d := some 4) rfl (by kernel_rfl) (by kernel_rfl) (by kernel_rfl) (by kernel_rfl) (fun _ _ _ h => h) rfl (fun Y hY => by exact rfl) hS0 rfl ?_
                    simp only [Act.put, List.setIfInBounds_toArray, List.set_cons_zero, List.set_cons_succ]
                    refine doneD (by kernel_rfl) ?_ _
                    refine OnlyNorm.normal ?_
                    go_wp2_with fail
                    go_ret
                    exact ⟨rfl, by rw [hg]; exact hS0.1.bel⟩
                  · have hlt : i < d := by omega
                    have hxy : x = y := by rw [← hx, ← hy]; exact HD.out.2 i hlt
                    subst hxy
                    have hb : (((x : Nat) : Int) != ((x : Nat) : Int)) = false := by simp
                    clear hx hy
                    go_wp2_with fail
                    go_quiet (fail)
                    go_wp2_with fail
                    go_roundw
                    case rel => exact ⟨i + 1, by omega, by go_num, HI.out.below ⟨rfl, rfl, rfl, Nat.le_refl _, fun _ _ => rfl⟩, HN.out.below ⟨rfl, rfl, rfl, Nat.le_refl _, fun _ _ => rfl⟩⟩
                    case measure => simp only [intOf]; omega
              · skip
                obtain rfl : cn = r + 1 := by have := HBF.out.1; omega
                have hr6 : (((r + 1 : Nat) : Int) == ((r + 1 : Nat) : Int)) = true := by simp
                go_upto_region 17 with (first
                  | (refine wpList_value rfl (by intro c hc; cases hc) (.agg (handR (rawOf H) fv cv)) (exec_ldR rfl rfl HI15.out.hx) ?_)
                  | (go_at_call 15; refine (HOW.out _ HI15.out.bel).mono ?_; rintro e w16 ⟨fx, cx, rfl, hfx, hcx, hbx⟩; have HI16 := hid (HI15.out.below hbx))
                  | (go_at_call 21; refine (HNN.out hall ((r + 1 : Nat) : Int) (by omega) fx cx w16 hfx hcx).mono ?_; rintro e w17 ⟨rfl, hbz⟩; have HI17 := hid (HI16.out.below hbz); clear hfx hcx hbx hbz))
                go_wp2_with (go_at_call 12; refine (known_c _).mono ?_; rintro e wk ⟨rfl, hbk⟩; have HIK := hid (HI17.out.below hbk))
                go_ret
                exact ⟨rfl, by rw [hg]; exact HIK.out.bel⟩
            · skip
              rw [if_neg hall] at HCS
              have hRKh := hRK2 hall
              clear hRK hRK2
              go_wp2_with (first
                | (refine wpList_value rfl (by intro c hc; cases hc) (.agg (handR (rawOf H) fv cv)) (exec_ldR rfl rfl HI7.out.hx) ?_)
                | (refine wpList_value rfl (by intro c hc; cases hc) (.agg (handR (rawOf H) fv cv)) (exec_ldR rfl rfl HI9.out.hx) ?_)
                | (go_at_call 15; refine (HOW.out _ HI7.out.bel).mono ?_; rintro e w8 ⟨fx, cx, rfl, hfx, hcx, hbx⟩; have HI8 := hid (HI7.out.below hbx))
                | (go_at_call 20; refine (HCS.out fx cx w8 hfx hcx).mono ?_; rintro e w9 ⟨rfl, hbz⟩; have HI9 := hid (HI8.out.below hbz); clear hfx hcx hbx hbz HI7 HI8)
                | (go_at_call 15; refine (HOW.out _ HI9.out.bel).mono ?_; rintro e w10 ⟨fx, cx, rfl, hfx, hcx, hbx⟩; have HI10 := hid (HI9.out.below hbx))
                | (go_at_call 25; refine (ints_c _ L _ HI10.out.hu.readsA (by have := HLN.out; omega)).mono ?_; rintro e w11 ⟨vx, rfl, hvx, hby⟩; have HI11 := hid (HI10.out.below hby))
                | (go_at_call 24; refine (HRK.out L (by have := HLN.out; omega) hL1 fx cx vx w11 (hfx.below hby) (hcx.below hby) hvx.readsA).mono ?_; rintro e w12 ⟨rfl, hbz⟩; rw [hRKh]; have HI12 := hid (HI11.out.below hbz); clear hfx hcx hvx hbx hby hbz)
                | (go_at_call 12; refine (known_c _).mono ?_; rintro e wk ⟨rfl, hbk⟩; have HIK := hid (HI12.out.below hbk)))
              go_ret
              exact ⟨rfl, by rw [hg]; exact HIK.out.bel⟩
          · have q1 : ((rawOf H).kind == 4) = false := by simp [hk4]
            clear hk3 hk4
            go_enter Try.func7, Try.ntmps7
            go_upto_region 3 with (first
              | (refine wpList_value rfl (by intro c hc; cases hc) (.agg (handR (rawOf H) fv cv)) (exec_ldR rfl rfl HX.out) ?_)
              | (go_at_call 11; refine (HLG.out _).mono ?_; rintro e w1 ⟨rfl, hb1⟩; have HB1 := hid (HB.out.trans (hb1.mono (by simp; omega))); have HX1 := hid (heap_below hb1 HX.out (heap_lt HX.out)); have ⟨k0, k1, k2, k3, k4, k5, k6, k7⟩ := cells8 HX1.out; have hg1 : g < w1.heap.size := heap_lt HX1.out)
              | (go_at_call 15; refine (HOW.out _ HB1.out).mono ?_; rintro e w2 ⟨f1, c1, rfl, hf1, hc1, hb2⟩; have HB2 := hid (HB1.out.trans (hb2.mono (by omega))); have HX2 := hid (heap_below hb2 HX1.out (heap_lt HX1.out)); have hg2 : g < w2.heap.size := heap_lt HX2.out)
              | (go_at_call 26; refine (HCK.out f1 c1 w2 hf1 hc1).mono ?_; rintro e w3 ⟨rfl, hb3⟩; have HB3 := hid (HB2.out.trans (hb3.mono (by omega))); have HX3 := hid (heap_below hb3 HX2.out (heap_lt HX2.out)); have ⟨m0, m1, m2, m3, m4, m5, m6, m7⟩ := cells8 HX3.out; have hg3 : g < w3.heap.size := heap_lt HX3.out))
            go_upto_region 4 with (first
              | (refine wpList_value rfl (by intro c hc; cases hc) (.agg (handR (rawOf H) fv cv)) (exec_ldR rfl rfl HX3.out) ?_)
              | (go_at_call 28; refine (HWK.out _ HB3.out).mono ?_; rintro e w4 ⟨u, rfl, hu4, hb4⟩))
            obtain ⟨q, cap, rfl, hcap, hgq⟩ := hu4.form (by have := HLN.out; have := HNP.out; omega)
            rw [HLN.out.1] at hu4 hcap ⊢
            have HI4 := hid (show LwI g w (rawOf H) fv cv (.slice (some ⟨q, 0, none⟩) n cap) L w4 from ⟨HB3.out.trans (hb4.mono (by omega)), heap_below hb4 HX3.out (heap_lt HX3.out), hu4.mono (by omega)⟩)
            clear hu4 hb4 HX HX1 HX2 HX3 HB HB1 HB2 HB3 hgq hb1 hb2 hb3 hf1 hc1 k0 k1 k2 k3 k4 k5 k6 k7 m0 m1 m2 m3 m4 m5 m6 m7
            go_upto_region 7 with (first
              | (refine wpList_value rfl (by intro c hc; cases hc) (.agg (handR (rawOf H) fv cv)) (exec_ldR rfl rfl HI4.out.hx) ?_)
              | (go_at_call 15; refine (HOW.out _ HI4.out.bel).mono ?_; rintro e w5 ⟨fx, cx, rfl, hfx, hcx, hbx⟩; have HI5 := hid (HI4.out.below hbx))
              | (go_at_call 25; refine (ints_c _ L _ HI5.out.hu.readsA (by have := HLN.out; omega)).mono ?_; rintro e w6 ⟨vx, rfl, hvx, hby⟩; have HI6 := hid (HI5.out.below hby))
              | (go_at_call 29; refine (HRU.out L (by have := HLN.out; omega) hL1 fx cx vx w6 (hfx.below hby) (hcx.below hby) hvx.readsA).mono ?_; rintro e w7 ⟨rfl, hbz⟩; rw [HF.out.1]; simp only [runV, HF.out.2]; have HI7 := hid (HI6.out.below hbz); clear hfx hcx hvx hbx hby hbz))
            by_cases hall : cntO H (-1) s0 ≤ 1000000000000000
            · skip
              rw [if_pos hall] at HCS
              have hRKh := hRK hall
              clear hRK hRK2
              go_upto_region 8 with (first
                | (refine wpList_value rfl (by intro c hc; cases hc) (.agg (handR (rawOf H) fv cv)) (exec_ldR rfl rfl HI7.out.hx) ?_)
                | (go_at_call 15; refine (HOW.out _ HI7.out.bel).mono ?_; rintro e w8 ⟨fx, cx, rfl, hfx, hcx, hbx⟩; have HI8 := hid (HI7.out.below hbx))
                | (go_at_call 20; refine (HCS.out fx cx w8 hfx hcx).mono ?_; rintro e w9 ⟨rfl, hbz⟩; have HI9 := hid (HI8.out.below hbz); clear hfx hcx hbx hbz))
              go_upto_region 13 with (first
                | (refine wpList_value rfl (by intro c hc; cases hc) (.agg (handR (rawOf H) fv cv)) (exec_ldR rfl rfl HI9.out.hx) ?_)
                | (go_at_call 15; refine (HOW.out _ HI9.out.bel).mono ?_; rintro e w10 ⟨fx, cx, rfl, hfx, hcx, hbx⟩; have HI10 := hid (HI9.out.below hbx))
                | (go_at_call 25; refine (ints_c _ L _ HI10.out.hu.readsA (by have := HLN.out; omega)).mono ?_; rintro e w11 ⟨vx, rfl, hvx, hby⟩; have HI11 := hid (HI10.out.below hby))
                | (go_at_call 24; refine (HRK.out L (by have := HLN.out; omega) hL1 fx cx vx w11 (hfx.below hby) (hcx.below hby) hvx.readsA).mono ?_; rintro e w12 ⟨rfl, hbz⟩; rw [hRKh]; have HI12 := hid (HI11.out.below hbz); clear hfx hcx hvx hbx hby hbz))
              go_upto_region 14 with (first
                | (refine wpList_value rfl (by intro c hc; cases hc) (.agg (handR (rawOf H) fv cv)) (exec_ldR rfl rfl HI12.out.hx) ?_)
                | (go_at_call 15; refine (HOW.out _ HI12.out.bel).mono ?_; rintro e w13 ⟨fx, cx, rfl, hfx, hcx, hbx⟩; have HI13 := hid (HI12.out.below hbx))
                | (go_at_call 21; refine (HNT.out hall r HBF.out.1 fx cx w13 hfx hcx).mono ?_; rintro e w14 ⟨bk, rfl, hbk, hbz⟩; rw [HBF.out.2.1, HLN.out.2.2] at hbk; have HI14 := hid (HI13.out.below hbz); have HBK := hid hbk; clear hfx hcx hbx hbz hbk))
              go_upto_region 16 with (go_at_call 18; refine (sam_t bk (.slice (some ⟨q, 0, none⟩) n cap) L _ HBK.out.reads HI14.out.hu.reads (by have := HLN.out; omega)).mono ?_; rintro e w15 ⟨rfl, hbz⟩; have HI15 := hid (HI14.out.below hbz); clear hbz HBK)
              have hr5 : IntKind.i64.wrap (((r : Nat) : Int) + 1) = ((r + 1 : Nat) : Int) := (IntWalk.i64_in _ (by omega)).trans (by omega)
              by_cases hnx : r + 1 < cn
              · skip
                have hr6 : (((r + 1 : Nat) : Int) == ((cn : Nat) : Int)) = false := by simp; omega
                obtain ⟨ys, hy1, hy2, hy3⟩ := HBF.out.2.2 hnx
                obtain ⟨r1, hr1e⟩ : ∃ r1, r + 1 = r1 := ⟨_, rfl⟩
                rw [hr1e] at hr5 hr6 hnx hy1
                have HY := hid (show nthN H (okO H o) (dep s0) s0 r1 = ys ∧ ys.length = n from ⟨hy1, hy2.trans HLN.out.2.1⟩)
                clear hr1e hy1
                go_upto_region 17 with (first
                  | (refine wpList_value rfl (by intro c hc; cases hc) (.agg (handR (rawOf H) fv cv)) (exec_ldR rfl rfl HI15.out.hx) ?_)
                  | (go_at_call 15; refine (HOW.out _ HI15.out.bel).mono ?_; rintro e w16 ⟨fx, cx, rfl, hfx, hcx, hbx⟩; have HI16 := hid (HI15.out.below hbx))
                  | (go_at_call 21; refine (HNT.out hall r1 hnx fx cx w16 hfx hcx).mono ?_; rintro e w17 ⟨nx, rfl, hnxt, hbz⟩; rw [HY.out.1] at hnxt; have hg16 : g < w16.heap.size := heap_lt HI16.out.hx; have HI17 := hid (HI16.out.below hbz); have HNX := hid (hnxt.mono (Nat.le_of_lt hg16)); clear hfx hcx hbx hbz hnxt hg16))
                obtain ⟨q2, cap2, rfl, hcap2, -⟩ := HNX.out.form (by rw [List.length_map]; have := HY.out.2; have := HNP.out; omega)
                rw [List.length_map, HY.out.2] at HNX hcap2 ⊢
                obtain ⟨d, hd1, hd2, hd3, hd4⟩ := lex_diff xs ys hy2.symm hy3
                have HD := hid (show _ ∧ _ from ⟨hd3, hd4⟩)
                have hdn : d < n := by have := HLN.out.2.1; omega
                have hneq : (((n : Nat) : Int) != ((n : Nat) : Int)) = false := by simp
                clear hy2 hy3 hd3 hd4
                go_wp2_with fail
                go_loopw [15] (fun ix wr => ∃ i : Nat, i ≤ d ∧ ix = .int .i64 ((i : Nat) : Int) ∧ LwI g w (rawOf H) fv cv (.slice (some ⟨q, 0, none⟩) n cap) L wr ∧ Ints wr g (.slice (some ⟨q2, 0, none⟩) n cap2) (ys.map fun c => ((c : Nat) : Int))) (fun ix _ => n - (intOf ix).toNat)
                case atStart => exact ⟨0, by omega, rfl, HI17.out, HNX.out⟩
                case round =>
                  obtain ⟨i, hid', rfl, hI, hN⟩ := hrel
                  have hin : decide (((i : Nat) : Int) < ((n : Nat) : Int)) = true := decide_eq_true (by omega)
                  have hin' : ((i : Nat) : Int) < ((n : Nat) : Int) := by omega
                  have hi0 : (0 : Int) ≤ ((i : Nat) : Int) := by omega
                  have hix : i < xs.length := by omega
                  have hiy : i < ys.length := by have := HY.out.2; omega
                  obtain ⟨x, hx⟩ : ∃ x, xs[i] = x := ⟨_, rfl⟩
                  obtain ⟨y, hy⟩ : ∃ y, ys[i] = y := ⟨_, rfl⟩
                  have c1 : ∀ Y, Ints Y g (.slice (some ⟨q, 0, none⟩) n cap) L → Y.cell? ⟨q, i, none⟩ = some (.int .i64 ((x : Nat) : Int)) := fun Y h => by
                    have := h.at i (by have := HLN.out; omega)
                    rw [this, ← hx]
                    congr 2
                    simp only [← HLN.out.2.2, List.getElem_map]
                  have c2 : ∀ Y, Ints Y g (.slice (some ⟨q2, 0, none⟩) n cap2) (ys.map fun c => ((c : Nat) : Int)) → Y.cell? ⟨q2, i, none⟩ = some (.int .i64 ((y : Nat) : Int)) := fun Y h => by
                    have := h.at i (by rw [List.length_map]; exact hiy)
                    rw [this, ← hy]
                    congr 2
                    simp only [List.getElem_map]
                  have d1 := c1 _ hI.hu
                  have d2 := c2 _ hN
                  have C1 := hid c1
                  have C2 := hid c2
                  have HI := hid hI
                  have HN := hid hN
                  have hio := hid hid'
                  clear c1 c2 hI hN
                  by_cases hed : i = d
                  · have hxy : x < y := by subst hed; rw [← hx, ← hy]; exact HD.out.1
                    have hb : (((y : Nat) : Int) != ((x : Nat) : Int)) = true := by simp; omega
                    clear hx hy hed
                    go_upto_region 24 with fail
                    go_quiet (fail)
                    go_upto_region 25 with fail
                    refine regD (fun Y => LwI g w (rawOf H) fv cv (.slice (some ⟨q, 0, none⟩) n cap) L Y ∧ Ints Y g (.slice (some ⟨q2, 0, none⟩) n cap2) (ys.map fun c => ((c : Nat) : Int))) (fun _ => true) (by kernel_rfl) ?_
                    have hbd : Below wr.heap.size wr (wr.drewN nq).drew := ⟨rfl, rfl, rfl, Nat.le_refl _, fun _ _ => rfl⟩
                    have hS0 : LwI g w (rawOf H) fv cv (.slice (some ⟨q, 0, none⟩) n cap) L (wr.drewN nq).drew ∧ Ints (wr.drewN nq).drew g (.slice (some ⟨q2, 0, none⟩) n cap2) (ys.map fun c => ((c : Nat) : Int)) := ⟨HI.out.below hbd, HN.out.below hbd⟩
                    clear hbd
                    refine takeE (i := 0) (.slice (some ⟨q2, 0, none⟩) n cap2) (d := some 173) rfl (by kernel_rfl) (by kernel_rfl) (by kernel_rfl) (by kernel_rfl) (fun _ _ _ h => h) rfl (fun Y hY => by exact rfl) hS0 rfl ?_
                    simp only [Act.put, List.setIfInBounds_toArray, List.set_cons_zero, List.set_cons_succ]
                    refine takeE (i := 1) (.int .i64 ((i : Nat) : Int)) (d := some 174) rfl (by kernel_rfl) (by kernel_rfl) (by kernel_rfl) (by kernel_rfl) (fun _ _ _ h => h) rfl (fun Y hY => by exact rfl) hS0 rfl ?_
                    simp only [Act.put, List.setIfInBounds_toArray, List.set_cons_zero, List.set_cons_succ]
                    refine takeE (i := 2) (.pointer (some ⟨q2, i, none⟩)) (d := some 175) rfl (by kernel_rfl) (by kernel_rfl) (by kernel_rfl) (by kernel_rfl) (fun _ _ _ h => h) rfl (fun Y hY => by exact exec_ixc rfl rfl rfl (by omega)) hS0 rfl ?_
                    simp only [Act.put, List.setIfInBounds_toArray, List.set_cons_zero, List.set_cons_succ]
                    refine takeE (i := 3) (.int .i64 ((y : Nat) : Int)) (d := some 176) rfl (by kernel_rfl) (by kernel_rfl) (by kernel_rfl) (by kernel_rfl) (fun _ _ _ h => h) rfl (fun Y hY => by exact exec_ldcell rfl rfl (C2.out _ hY.2)) hS0 rfl ?_
                    simp only [Act.put, List.setIfInBounds_toArray, List.set_cons_zero, List.set_cons_succ]
                    refine takeE (i := 4) (.slice (some ⟨q, 0, none⟩) n cap) (d := some 177) rfl (by kernel_rfl) (by kernel_rfl) (by kernel_rfl) (by kernel_rfl) (fun _ _ _ h => h) rfl (fun Y hY => by exact rfl) hS0 rfl ?_
                    simp only [Act.put, List.setIfInBounds_toArray, List.set_cons_zero, List.set_cons_succ]
                    refine takeE (i := 5) (.int .i64 ((i : Nat) : Int)) (d := some 178) rfl (by kernel_rfl) (by kernel_rfl) (by kernel_rfl) (by kernel_rfl) (fun _ _ _ h => h) rfl (fun Y hY => by exact rfl) hS0 rfl ?_
                    simp only [Act.put, List.setIfInBounds_toArray, List.set_cons_zero, List.set_cons_succ]
                    refine takeE (i := 6) (.pointer (some ⟨q, i, none⟩)) (d := some 179) rfl (by kernel_rfl) (by kernel_rfl) (by kernel_rfl) (by kernel_rfl) (fun _ _ _ h => h) rfl (fun Y hY => by exact exec_ixc rfl rfl rfl (by omega)) hS0 rfl ?_
                    simp only [Act.put, List.setIfInBounds_toArray, List.set_cons_zero, List.set_cons_succ]
                    refine takeE (i := 7) (.int .i64 ((x : Nat) : Int)) (d := some 180) rfl (by kernel_rfl) (by kernel_rfl) (by kernel_rfl) (by kernel_rfl) (fun _ _ _ h => h) rfl (fun Y hY => by exact exec_ldcell rfl rfl (C1.out _ hY.1.hu)) hS0 rfl ?_
                    simp only [Act.put, List.setIfInBounds_toArray, List.set_cons_zero, List.set_cons_succ]
                    refine takeE (i := 8) (.bool true) (d := some 181) rfl (by kernel_rfl) (by kernel_rfl) (by kernel_rfl) (by kernel_rfl) (fun _ _ _ h => h) rfl (fun Y hY => by exact exec_gtN rfl rfl rfl hxy) hS0 rfl ?_
                    simp only [Act.put, List.setIfInBounds_toArray, List.set_cons_zero, List.set_cons_succ]
                    refine takeE (i := 9) (.bool true) (d := some 182) rfl (by kernel_rfl) (by kernel_rfl) (by kernel_rfl) (by kernel_rfl) (fun _ _ _ h => h) rfl (fun Y hY => by exact rfl) hS0 rfl ?_
                    simp only [Act.put, List.setIfInBounds_toArray, List.set_cons_zero, List.set_cons_succ]
                    refine stepG 10 (by kernel_rfl) rfl rfl (fun K hK => ?_)
                    go_simp
                    go_at_call 12
                    refine (known_c _).mono ?_
                    rintro e wk ⟨rfl, hbk⟩
                    have hS0 : LwI g w (rawOf H) fv cv (.slice (some ⟨q, 0, none⟩) n cap) L wk ∧ Ints wk g (.slice (some ⟨q2, 0, none⟩) n cap2) (ys.map fun c => ((c : Nat) : Int)) := ⟨hS0.1.below hbk, hS0.2.below hbk⟩
                    go_simp
                    refine hK _ _ (fun _ => hS0) ?_
                    clear hK K
                    refine takeE (i := 11) (.bool true) (d := some 184) rfl (by kernel_rfl) (by kernel_rfl) (by kernel_rfl) (by kernel_rfl) (fun _ _ _ h => h) rfl (fun Y hY => by exact rfl) hS0 rfl ?_
                    simp only [Act.put, List.setIfInBounds_toArray, List.set_cons_zero, List.set_cons_succ]
                    refine takeE (i := 12) (.bool true) (d := some 4) rfl (by kernel_rfl) (by kernel_rfl) (by kernel_rfl) (by kernel_rfl) (fun _ _ _ h => h) rfl (fun Y hY => by exact rfl) hS0 rfl ?_
                    simp only [Act.put, List.setIfInBounds_toArray, List.set_cons_zero, List.set_cons_succ]
                    refine doneD (by kernel_rfl) ?_ _
                    refine OnlyNorm.normal ?_
                    go_wp2_with fail
                    go_ret
                    exact ⟨rfl, by rw [hg]; exact hS0.1.bel⟩
                  · have hlt : i < d := by omega
                    have hxy : x = y := by rw [← hx, ← hy]; exact HD.out.2 i hlt
                    subst hxy
                    have hb : (((x : Nat) : Int) != ((x : Nat) : Int)) = false := by simp
                    clear hx hy
                    go_wp2_with fail
                    go_quiet (fail)
                    go_wp2_with fail
                    go_roundw
                    case rel => exact ⟨i + 1, by omega, by go_num, HI.out.below ⟨rfl, rfl, rfl, Nat.le_refl _, fun _ _ => rfl⟩, HN.out.below ⟨rfl, rfl, rfl, Nat.le_refl _, fun _ _ => rfl⟩⟩
                    case measure => simp only [intOf]; omega
              · skip
                obtain rfl : cn = r + 1 := by have := HBF.out.1; omega
                have hr6 : (((r + 1 : Nat) : Int) == ((r + 1 : Nat) : Int)) = true := by simp
                go_upto_region 17 with (first
                  | (refine wpList_value rfl (by intro c hc; cases hc) (.agg (handR (rawOf H) fv cv)) (exec_ldR rfl rfl HI15.out.hx) ?_)
                  | (go_at_call 15; refine (HOW.out _ HI15.out.bel).mono ?_; rintro e w16 ⟨fx, cx, rfl, hfx, hcx, hbx⟩; have HI16 := hid (HI15.out.below hbx))
                  | (go_at_call 21; refine (HNN.out hall ((r + 1 : Nat) : Int) (by omega) fx cx w16 hfx hcx).mono ?_; rintro e w17 ⟨rfl, hbz⟩; have HI17 := hid (HI16.out.below hbz); clear hfx hcx hbx hbz))
                go_wp2_with (go_at_call 12; refine (known_c _).mono ?_; rintro e wk ⟨rfl, hbk⟩; have HIK := hid (HI17.out.below hbk))
                go_ret
                exact ⟨rfl, by rw [hg]; exact HIK.out.bel⟩
            · skip
              rw [if_neg hall] at HCS
              have hRKh := hRK2 hall
              clear hRK hRK2
              go_wp2_with (first
                | (refine wpList_value rfl (by intro c hc; cases hc) (.agg (handR (rawOf H) fv cv)) (exec_ldR rfl rfl HI7.out.hx) ?_)
                | (refine wpList_value rfl (by intro c hc; cases hc) (.agg (handR (rawOf H) fv cv)) (exec_ldR rfl rfl HI9.out.hx) ?_)
                | (go_at_call 15; refine (HOW.out _ HI7.out.bel).mono ?_; rintro e w8 ⟨fx, cx, rfl, hfx, hcx, hbx⟩; have HI8 := hid (HI7.out.below hbx))
                | (go_at_call 20; refine (HCS.out fx cx w8 hfx hcx).mono ?_; rintro e w9 ⟨rfl, hbz⟩; have HI9 := hid (HI8.out.below hbz); clear hfx hcx hbx hbz HI7 HI8)
                | (go_at_call 15; refine (HOW.out _ HI9.out.bel).mono ?_; rintro e w10 ⟨fx, cx, rfl, hfx, hcx, hbx⟩; have HI10 := hid (HI9.out.below hbx))
                | (go_at_call 25; refine (ints_c _ L _ HI10.out.hu.readsA (by have := HLN.out; omega)).mono ?_; rintro e w11 ⟨vx, rfl, hvx, hby⟩; have HI11 := hid (HI10.out.below hby))
                | (go_at_call 24; refine (HRK.out L (by have := HLN.out; omega) hL1 fx cx vx w11 (hfx.below hby) (hcx.below hby) hvx.readsA).mono ?_; rintro e w12 ⟨rfl, hbz⟩; rw [hRKh]; have HI12 := hid (HI11.out.below hbz); clear hfx hcx hvx hbx hby hbz)
                | (go_at_call 12; refine (known_c _).mono ?_; rintro e wk ⟨rfl, hbk⟩; have HIK := hid (HI12.out.below hbk)))
              go_ret
              exact ⟨rfl, by rw [hg]; exact HIK.out.bel⟩
      · have hok' : okR R = false := by simpa using hok
        have HCK := hid (fun f c W (h1 : ReadsF W f R.faces) (h2 : ReadsA W c R.cards) => check_no R hok' f c W.heap.size W (RawAt.came h1 h2) (by omega) (by omega))
        subst hue
        clear hbig hsm hfe hce hrf hrc hch hok hok' hlf hlc
        go_enter Try.func7, Try.ntmps7
        go_wp2_with (first
          | (refine wpList_value rfl (by intro c hc; cases hc) (.agg (handR R fv cv)) (exec_ldR rfl rfl HX.out) ?_)
          | (go_at_call 11; refine (HLG.out _).mono ?_; rintro e w1 ⟨rfl, hb1⟩; have HB1 := hid (HB.out.trans (hb1.mono (by simp; omega))); have HX1 := hid (heap_below hb1 HX.out (heap_lt HX.out)); have ⟨k0, k1, k2, k3, k4, k5, k6, k7⟩ := cells8 HX1.out; have hg1 : g < w1.heap.size := heap_lt HX1.out)
          | (go_at_call 15; refine (HOW.out _ HB1.out).mono ?_; rintro e w2 ⟨f1, c1, rfl, hf1, hc1, hb2⟩; have HB2 := hid (HB1.out.trans (hb2.mono (by omega))); have HX2 := hid (heap_below hb2 HX1.out (heap_lt HX1.out)); have hg2 : g < w2.heap.size := heap_lt HX2.out)
          | (go_at_call 26; refine (HCK.out f1 c1 w2 hf1 hc1).mono ?_; rintro e w3 ⟨rfl, hb3⟩; have HB3 := hid (HB2.out.trans (hb3.mono (by omega))); have HX3 := hid (heap_below hb3 HX2.out (heap_lt HX2.out)); have ⟨m0, m1, m2, m3, m4, m5, m6, m7⟩ := cells8 HX3.out; have hg3 : g < w3.heap.size := heap_lt HX3.out)
          | (go_at_call 12; refine (known_c _).mono ?_; rintro e wk ⟨rfl, hbk⟩))
        go_ret
        exact ⟨rfl, by rw [hg]; exact HB3.out.trans (hbk.mono (by omega))⟩
end Go.Proofs.Ytmjnelkeiogdcaa
