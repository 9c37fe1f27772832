/- The law HandCounting. -/
import Derived.Test.YtmjnelkeiogdcaaJU
import Derived.Test.YtmjnelkeiogdcaaPD
set_option linter.unusedSimpArgs false
set_option linter.unusedVariables false
namespace Go.Proofs.Ytmjnelkeiogdcaa
open Go Go.RowKit Go.Shelf
set_option maxRecDepth 100000

set_option maxHeartbeats 8000000 in
theorem counting_c (R : RH) (fv cv : Value) (w : World) (hrf : ReadsF w fv R.faces) (hrc : ReadsA w cv R.cards) :
    Calls Try.prog 6 #[.agg (handR R fv cv)] w fun e w' => e = .returned (.bool true) ∧ Below w.heap.size w w' := by
  have hx := heap_alloc_new w (.cells (handR R fv cv) 26)
  have hb : Below w.heap.size w (w.alloc (.cells (handR R fv cv) 26)) := (Below.refl _ _).alloc (Nat.le_refl _) _
  have HX := hid hx
  have HB := hid hb
  obtain ⟨pf, cf, hfe⟩ := hrf.form
  obtain ⟨pc, cc, hce⟩ := hrc.form
  have HLG := hid (fun W => large_c R pf pc R.faces.length cf R.cards.length cc W)
  rw [← hfe, ← hce] at HLG
  obtain ⟨g, hg⟩ : ∃ g, w.heap.size = g := ⟨_, rfl⟩
  rw [hg] at HX HB
  clear hx hb
  by_cases hbig : 30 < R.faces.length ∨ 30 < R.cards.length
  · have hbg : (decide (30 < R.faces.length) || decide (30 < R.cards.length)) = true := by simpa using hbig
    rw [hbg] at HLG
    clear hbig hbg hfe hce hrf hrc
    go_enter Try.func6, Try.ntmps6
    go_wp2_with (first
      | (refine wpList_value rfl (by intro c hc; cases hc) (.agg (handR R fv cv)) (exec_ldR rfl rfl HX.out) ?_)
      | (go_at_call 11; refine (HLG.out _).mono ?_; rintro e w1 ⟨rfl, hb1⟩; have HB1 := hid (HB.out.trans (hb1.mono (by simp; omega))); have HX1 := hid (heap_below hb1 HX.out (heap_lt HX.out)); have ⟨k0, k1, k2, k3, k4, k5, k6, k7⟩ := cells8 HX1.out; have hg1 : g < w1.heap.size := heap_lt HX1.out)
      | (go_at_call 12; refine (known_c _).mono ?_; rintro e wk ⟨rfl, hbk⟩))
    go_ret
    exact ⟨rfl, by rw [hg]; exact HB1.out.trans (hbk.mono (by omega))⟩
  · have hsm : (decide (30 < R.faces.length) || decide (30 < R.cards.length)) = false := by simpa using hbig
    rw [hsm] at HLG
    have hlf : R.faces.length ≤ 30 := by omega
    have hlc : R.cards.length ≤ 30 := by omega
    have HOW := hid (fun W hW => own_r R fv cv w hrf hrc (by omega) (by omega) g hg W hW)
    by_cases hok : okR R = true
    · obtain ⟨H, rfl, hV⟩ : ∃ H, R = rawOf H ∧ Val H := ⟨toH R, (Val.of hok).2.symm, (Val.of hok).1⟩
      have HCK := hid (fun f c W (h1 : ReadsF W f (rawOf H).faces) (h2 : ReadsA W c (rawOf H).cards) => check_yes H hV f c W.heap.size W (RawAt.came h1 h2))
      by_cases hk3 : (rawOf H).kind = 4 ∧ 2 < (rawOf H).count
      · have q1 : ((rawOf H).kind == 4) = true := by simp [hk3.1]
        have q2 : decide (2 < (rawOf H).count) = true := decide_eq_true hk3.2
        have q3 : 2 < (rawOf H).count := hk3.2
        clear hbig hsm hfe hce hrf hrc hok hlf hlc hV hk3
        go_enter Try.func6, Try.ntmps6
        go_wp2_with (first
          | (refine wpList_value rfl (by intro c hc; cases hc) (.agg (handR (rawOf H) fv cv)) (exec_ldR rfl rfl HX.out) ?_)
          | (go_at_call 11; refine (HLG.out _).mono ?_; rintro e w1 ⟨rfl, hb1⟩; have HB1 := hid (HB.out.trans (hb1.mono (by simp; omega))); have HX1 := hid (heap_below hb1 HX.out (heap_lt HX.out)); have ⟨k0, k1, k2, k3, k4, k5, k6, k7⟩ := cells8 HX1.out; have hg1 : g < w1.heap.size := heap_lt HX1.out)
          | (go_at_call 15; refine (HOW.out _ HB1.out).mono ?_; rintro e w2 ⟨f1, c1, rfl, hf1, hc1, hb2⟩; have HB2 := hid (HB1.out.trans (hb2.mono (by omega))); have HX2 := hid (heap_below hb2 HX1.out (heap_lt HX1.out)); have hg2 : g < w2.heap.size := heap_lt HX2.out)
          | (go_at_call 26; refine (HCK.out f1 c1 w2 hf1 hc1).mono ?_; rintro e w3 ⟨rfl, hb3⟩; have HB3 := hid (HB2.out.trans (hb3.mono (by omega))); have HX3 := hid (heap_below hb3 HX2.out (heap_lt HX2.out)); have ⟨m0, m1, m2, m3, m4, m5, m6, m7⟩ := cells8 HX3.out; have hg3 : g < w3.heap.size := heap_lt HX3.out)
          | (go_at_call 12; refine (known_c _).mono ?_; rintro e wk ⟨rfl, hbk⟩))
        go_ret
        exact ⟨rfl, by rw [hg]; exact HB3.out.trans (hbk.mono (by omega))⟩
      · have HOC := hid (fun f c W (h1 : ReadsF W f (rawOf H).faces) (h2 : ReadsA W c (rawOf H).cards) => Outcomes_yes H hV f c W.heap.size W (RawAt.came h1 h2))
        have hk3' : ¬ (H.kind = 4 ∧ 2 < H.count) := fun h => hk3 ⟨by show ((H.kind : Nat) : Int) = 4; omega, by show (2 : Int) < ((H.count : Nat) : Int); omega⟩
        have hm4 := outs_400 H hV.hand.ok hk3'
        have hm1 := (outs_le H hV.hand.ok).1
        obtain ⟨hpo, heq⟩ := counting_facts H hV.hand.ok hV.hand.last hV.hand.wide
        obtain ⟨rp, hrp1, hrp2⟩ := raw_pos H hV.hand.ok hV.hand.last
        have HW1 := hid (fun (hdn : dnK H (beginS H) (dep (beginS H)) ≤ 1000000000000000) f c W (h1 : ReadsF W f (rawOf H).faces) (h2 : ReadsA W c (rawOf H).cards) => (show Calls Try.prog 14 #[.agg (handA H f c)] W fun e w' => ∃ ob, e = .returned (.tuple #[.slice (some ⟨ob, 0, none⟩) (outsN H) (outsN H), .int .i64 0]) ∧ W.heap.size ≤ ob ∧ w'.heap[ob]? = some (.cells (irow (outsN H) (cst fun o => rawW H (beginS H) o / gcdW (rawW H (beginS H)) (outsN H))) 3 (0, 0)) ∧ Below W.heap.size W w' from
          (callsIn_wide.1 (Weights_in 24 (by omega) W.heap.size H hV f c W (RawAt.came h1 h2))).mono (by
            rintro e w' ⟨hb, ⟨-, ob, h3, rfl, h4⟩ | ⟨hno, -⟩⟩
            · exact ⟨ob, rfl, h3, h4, hb⟩
            · exact absurd hdn hno)))
        have HW2 := hid (fun (hdn : ¬ dnK H (beginS H) (dep (beginS H)) ≤ 1000000000000000) f c W (h1 : ReadsF W f (rawOf H).faces) (h2 : ReadsA W c (rawOf H).cards) => (show Calls Try.prog 14 #[.agg (handA H f c)] W fun e w' => e = .returned (.tuple #[.slice none 0 0, .int .i64 8]) ∧ Below W.heap.size W w' from
          (callsIn_wide.1 (Weights_in 24 (by omega) W.heap.size H hV f c W (RawAt.came h1 h2))).mono (by
            rintro e w' ⟨hb, ⟨hyes, -⟩ | ⟨-, rfl⟩⟩
            · exact absurd hyes hdn
            · exact ⟨rfl, hb⟩)))
        have HCS := hid (show (∀ hall : cntO H (-1) (beginS H) ≤ 1000000000000000, ∀ i, i < outsN H → ∀ f c W, ReadsF W f (rawOf H).faces → ReadsA W c (rawOf H).cards → Calls Try.prog 20 #[.agg (handA H f c), .int .i64 ((i : Nat) : Int)] W fun e w' => e = .returned (.tuple #[.int .i64 ((cntO H ((i : Nat) : Int) (beginS H) : Nat) : Int), .int .i64 0]) ∧ Below W.heap.size W w') ∧
            (∀ hall : ¬ cntO H (-1) (beginS H) ≤ 1000000000000000, ∀ i, i < outsN H → ∀ f c W, ReadsF W f (rawOf H).faces → ReadsA W c (rawOf H).cards → Calls Try.prog 20 #[.agg (handA H f c), .int .i64 ((i : Nat) : Int)] W fun e w' => e = .returned (.tuple #[.int .i64 0, .int .i64 8]) ∧ Below W.heap.size W w') from
          ⟨fun hall i hi f c W h1 h2 => by
            have h := Courses_yes H hV f c ((i : Nat) : Int) (by omega) W.heap.size W (RawAt.came h1 h2)
            unfold crsR at h
            rw [if_pos ⟨by omega, by omega⟩, if_pos hall] at h
            exact h,
           fun hall i hi f c W h1 h2 => by
            have h := Courses_yes H hV f c ((i : Nat) : Int) (by omega) W.heap.size W (RawAt.came h1 h2)
            unfold crsR at h
            rw [if_pos ⟨by omega, by omega⟩, if_neg hall] at h
            exact h⟩)
        have HCN := hid (fun (hall : cntO H (-1) (beginS H) ≤ 1000000000000000) (i : Nat) => Nat.le_trans (cntO_le H ((i : Nat) : Int) (beginS H)) hall)
        obtain ⟨m, hm⟩ : ∃ m, outsN H = m := ⟨_, rfl⟩
        simp only [hm] at HOC HW1 HCS hm4 hm1 hrp1
        obtain ⟨s0, hs0⟩ : ∃ s0, beginS H = s0 := ⟨_, rfl⟩
        simp only [hs0] at HW1 HW2 HCS HCN hpo heq hrp2
        obtain ⟨CN, hCN0⟩ : ∃ CN : Nat → Nat, (fun i : Nat => cntO H ((i : Nat) : Int) s0) = CN := ⟨_, rfl⟩
        have hcn : ∀ i : Nat, cntO H ((i : Nat) : Int) s0 = CN i := fun i => congrFun hCN0 i
        simp only [hcn] at HCS HCN hpo heq
        obtain ⟨WW, hWW⟩ : ∃ WW : Nat → Nat, (fun o => rawW H s0 o / gcdW (rawW H s0) m) = WW := ⟨_, rfl⟩
        rw [hWW] at HW1
        have hgp := gcdW_pos (rawW H s0) m rp hrp1 hrp2
        have HPO := hid (show ∀ i, i < m → (0 < CN i ↔ 0 < WW i) from fun i hi => by
          rw [← hpo i, ← hWW]
          exact ⟨fun h => Nat.div_pos (Nat.le_of_dvd h (gcdW_dvd _ m i hi)) hgp, fun h => Nat.pos_of_ne_zero fun h0 => by simp only [h0, Nat.zero_div] at h; omega⟩)
        have HGP := hid (show 0 < gcdW CN m from gcdW_pos CN m rp hrp1 ((hpo rp).1 hrp2))
        have HEQ := hid (show ¬ (H.kind = 3 ∧ 1 < H.changes) → ∀ i, i < m → WW i = CN i / gcdW CN m from fun h i hi => by
          rw [← hWW]
          simp only
          rw [heq h i, gcd_congr m fun j _ => heq h j])
        have hm5 : decide ((400 : Int) < ((m : Nat) : Int)) = false := decide_eq_false (by omega)
        have hm6 : ¬ (400 : Int) < ((m : Nat) : Int) := by omega
        have hmm : (((m : Nat) : Int) != ((m : Nat) : Int)) = false := by simp
        clear hbig hsm hfe hce hrf hrc hok hlf hlc hV hpo heq hrp1 hrp2 hgp hWW hCN0 hcn hm hs0 hk3'
        by_cases hk4 : (rawOf H).kind = 4
        · have q1 : ((rawOf H).kind == 4) = true := by simp [hk4]
          have q2 : decide (2 < (rawOf H).count) = false := decide_eq_false (fun h => hk3 ⟨hk4, h⟩)
          have q3 : ¬ 2 < (rawOf H).count := fun h => hk3 ⟨hk4, h⟩
          clear hk3 hk4
          go_enter Try.func6, Try.ntmps6
          go_upto_region 3 with (first
            | (refine wpList_value rfl (by intro c hc; cases hc) (.agg (handR (rawOf H) fv cv)) (exec_ldR rfl rfl HX.out) ?_)
            | (go_at_call 11; refine (HLG.out _).mono ?_; rintro e w1 ⟨rfl, hb1⟩; have HB1 := hid (HB.out.trans (hb1.mono (by simp; omega))); have HX1 := hid (heap_below hb1 HX.out (heap_lt HX.out)); have ⟨k0, k1, k2, k3, k4, k5, k6, k7⟩ := cells8 HX1.out; have hg1 : g < w1.heap.size := heap_lt HX1.out)
            | (go_at_call 15; refine (HOW.out _ HB1.out).mono ?_; rintro e w2 ⟨f1, c1, rfl, hf1, hc1, hb2⟩; have HB2 := hid (HB1.out.trans (hb2.mono (by omega))); have HX2 := hid (heap_below hb2 HX1.out (heap_lt HX1.out)); have hg2 : g < w2.heap.size := heap_lt HX2.out)
            | (go_at_call 26; refine (HCK.out f1 c1 w2 hf1 hc1).mono ?_; rintro e w3 ⟨rfl, hb3⟩; have HB3 := hid (HB2.out.trans (hb3.mono (by omega))); have HX3 := hid (heap_below hb3 HX2.out (heap_lt HX2.out)); have ⟨m0, m1, m2, m3, m4, m5, m6, m7⟩ := cells8 HX3.out; have hg3 : g < w3.heap.size := heap_lt HX3.out))
          have HI3 := hid (show LwI g w (rawOf H) fv cv (.slice none 0 0) [] w3 from ⟨HB3.out, HX3.out, Ints.nil _ _⟩)
          clear HX HX1 HX2 HX3 HB HB1 HB2 HB3 hb1 hb2 hb3 hf1 hc1 k0 k1 k2 k3 k4 k5 k6 k7 m0 m1 m2 m3 m4 m5 m6 m7
          by_cases hdn : dnK H s0 (dep s0) ≤ 1000000000000000
          · skip
            have HWT := hid (HW1.out hdn)
            go_upto_region 4 with (first
              | (refine wpList_value rfl (by intro c hc; cases hc) (.agg (handR (rawOf H) fv cv)) (exec_ldR rfl rfl HI3.out.hx) ?_)
              | (go_at_call 15; refine (HOW.out _ HI3.out.bel).mono ?_; rintro e w4 ⟨fx, cx, rfl, hfx, hcx, hbx⟩; have HI4 := hid (HI3.out.below hbx))
              | (go_at_call 14; refine (HWT.out fx cx w4 hfx hcx).mono ?_; rintro e w5 ⟨ob, rfl, hob, hw5, hbz⟩; have HI5 := hid (HI4.out.below hbz); have hgo : g < ob := Nat.lt_of_lt_of_le (heap_lt HI4.out.hx) hob; have HWR := hid hw5; clear hfx hcx hbx hbz hw5))
            go_upto_region 9 with (first
              | (refine wpList_value rfl (by intro c hc; cases hc) (.agg (handR (rawOf H) fv cv)) (exec_ldR rfl rfl HI5.out.hx) ?_)
              | (go_at_call 15; refine (HOW.out _ HI5.out.bel).mono ?_; rintro e w6 ⟨fx, cx, rfl, hfx, hcx, hbx⟩; have HI6 := hid (HI5.out.below hbx))
              | (go_at_call 27; refine (HOC.out fx cx w6 hfx hcx).mono ?_; rintro e w7 ⟨rfl, hbz⟩; have HI7 := hid (HI6.out.below hbz)))
            have HWR := hid (heap_below hbz (heap_below hbx HWR.out (heap_lt HWR.out)) (heap_lt (heap_below hbx HWR.out (heap_lt HWR.out))))
            clear hfx hcx hbx hbz
            have hbL : Below w7.heap.size w7 (w7.alloc (.cells #[] 3)) := (Below.refl _ _).alloc (Nat.le_refl _) _
            have hg7 : g < w7.heap.size := heap_lt HI7.out.hx
            have hm7 := Ints.made w7 w7.heap.size (Nat.le_refl _)
            have hz8 : w7.heap.size ≤ (w7.alloc (.cells #[] 3)).heap.size := hbL.size
            have HI8 := hid (HI7.out.below hbL)
            have HWR8 := hid (heap_below hbL HWR.out (heap_lt HWR.out))
            have HM8 := hid hm7
            have hob7 : ob < w7.heap.size := heap_lt HWR.out
            clear hbL hm7 HWR
            go_wp2_with fail
            obtain ⟨z, hz⟩ : ∃ z, w7.heap.size = z := ⟨_, rfl⟩
            rw [hz] at HM8 hob7 hz8 ⊢
            obtain ⟨w8, hw8⟩ : ∃ w8, w7.alloc (.cells #[] 3) = w8 := ⟨_, rfl⟩
            rw [hw8] at HI8 HWR8 HM8 hz8 ⊢
            clear hw8 hz
            by_cases hall : cntO H (-1) s0 ≤ 1000000000000000
            · skip
              have HCSh := hid (HCS.out.1 hall)
              have hCN := HCN.out hall
              go_loopw [7, 8, 9, 10] (fun av sv dv ix wr => ∃ (i sm : Nat), i ≤ m ∧ ix = .int .i64 ((i : Nat) : Int) ∧ Ints wr z av ((List.range i).map fun o => ((CN o : Nat) : Int)) ∧ z ≤ wr.heap.size ∧ sv = .int .i64 ((sm : Nat) : Int) ∧ sm ≤ i * 1000000000000000 ∧ dv = .int .i64 ((gcdW CN i : Nat) : Int) ∧ LwI g w (rawOf H) fv cv (.slice none 0 0) [] wr ∧ wr.heap[ob]? = some (.cells (irow m (cst WW)) 3 (0, 0))) (fun _ _ _ ix _ => m - (intOf ix).toNat)
              case atStart => exact ⟨0, 0, by omega, rfl, HM8.out, hz8, rfl, by omega, rfl, HI8.out, HWR8.out⟩
              case round =>
                clear HI8 HM8 HWR8 HI3 HI4 HI5 HI6 HI7
                obtain ⟨i, sm, him, rfl, hA, hzs, rfl, hsm, rfl, hI, hW⟩ := hrel
                rcases Nat.lt_or_ge i m with hlt | hge
                · have hin : decide (((i : Nat) : Int) < ((m : Nat) : Int)) = true := decide_eq_true (by omega)
                  have hin' : ((i : Nat) : Int) < ((m : Nat) : Int) := by omega
                  have hi0 : (0 : Int) ≤ ((i : Nat) : Int) := by omega
                  have hcl := hCN i
                  have hpo := HPO.out i hlt
                  have hgl := gcdW_le CN 1000000000000000 hCN i
                  have hgs : gcdW CN (i + 1) = Nat.gcd (CN i) (gcdW CN i) := rfl
                  have HI9 := hid hI
                  have HWR9 := hid hW
                  have HA9 := hid hA
                  have HCI := hid (HCSh.out i hlt)
                  obtain ⟨nn, hnn⟩ : ∃ nn, CN i = nn := ⟨_, rfl⟩
                  obtain ⟨wv, hwv⟩ : ∃ wv, WW i = wv := ⟨_, rfl⟩
                  obtain ⟨D, hD⟩ : ∃ D, gcdW CN i = D := ⟨_, rfl⟩
                  rw [hnn] at hcl hpo HCI hgs
                  rw [hwv] at hpo
                  rw [hD] at hgl hgs ⊢
                  have hbn : (!decide (0 < nn) == decide (0 < wv)) = false := by by_cases h : 0 < nn; (have := hpo.1 h; simp [h, this]); (have h' : ¬ 0 < wv := fun h' => h (hpo.2 h'); simp [h, h'])
                  have hn0 : decide (((nn : Nat) : Int) < 0) = false := decide_eq_false (by omega)
                  have hw0 : decide (((wv : Nat) : Int) < 0) = false := decide_eq_false (by omega)
                  have hn0' : ¬ ((nn : Nat) : Int) < 0 := by omega
                  have hw0' : ¬ ((wv : Nat) : Int) < 0 := by omega
                  have hsw : IntKind.i64.wrap (((sm : Nat) : Int) + ((nn : Nat) : Int)) = ((sm + nn : Nat) : Int) := (IntWalk.i64_in _ (by omega)).trans (by omega)
                  have HS := hid (show sm + nn ≤ (i + 1) * 1000000000000000 by omega)
                  have HNN := hid hnn
                  have HDD := hid hD
                  have HGS := hid hgs
                  clear hI hW hA hpo hsm hnn hD hgs him
                  go_upto_region 16 with (first
                    | (refine wpList_value rfl (by intro c hc; cases hc) (.agg (handR (rawOf H) fv cv)) (exec_ldR rfl rfl HI9.out.hx) ?_)
                    | (go_at_call 15; refine (HOW.out _ HI9.out.bel).mono ?_; rintro e w10 ⟨fx, cx, rfl, hfx, hcx, hbx⟩; have HI10 := hid (HI9.out.below hbx))
                    | (go_at_call 20; refine (HCI.out fx cx w10 hfx hcx).mono ?_; rintro e w11 ⟨rfl, hbz⟩; have HI11 := hid (HI10.out.below hbz); have HWR11 := hid (heap_below hbz (heap_below hbx HWR9.out (heap_lt HWR9.out)) (heap_lt (heap_below hbx HWR9.out (heap_lt HWR9.out)))); have HA11 := hid ((HA9.out.below hbx).below hbz); have hz11 : z ≤ w11.heap.size := Nat.le_trans hzs (Nat.le_trans hbx.size hbz.size); clear hfx hcx hbx hbz))
                  have cw : w11.cell? ⟨ob, i, none⟩ = some (.int .i64 ((wv : Nat) : Int)) := by rw [← hwv]; exact cell_irow HWR11.out i hlt
                  go_upto_region 18 with fail
                  have hbL : Below w11.heap.size w11 (w11.alloc (.cells #[.int .i64 ((nn : Nat) : Int)] 3)) := (Below.refl _ _).alloc (Nat.le_refl _) _
                  have hcL : (w11.alloc (.cells #[.int .i64 ((nn : Nat) : Int)] 3)).cell? ⟨w11.heap.size, 0, none⟩ = some (.int .i64 ((nn : Nat) : Int)) := Boxed.cell (show Boxed _ _ 3 _ from heap_alloc_new w11 _)
                  have HAL := hid (HA11.out.below hbL)
                  have HIL := hid (HI11.out.below hbL)
                  have HWL := hid (heap_below hbL HWR11.out (heap_lt HWR11.out))
                  have hgL : z ≤ (w11.alloc (.cells #[.int .i64 ((nn : Nat) : Int)] 3)).heap.size := Nat.le_trans hz11 hbL.size
                  clear hbL cw
                  go_upto_region 19 with (refine wp_append_int rfl (.tmp 114) (.tmp 116) rfl z u7 ((List.range i).map fun o => ((CN o : Nat) : Int)) rfl HAL.out ((nn : Nat) : Int) w11.heap.size 1 rfl hcL (by rw [List.length_map, List.length_range]; omega) hgL ?_; intro av2 w12 hA2 hG2)
                  have hz12 : z ≤ w12.heap.size := Nat.le_trans hgL hG2.size
                  have hA3 : Ints w12 z av2 ((List.range (i + 1)).map fun o => ((CN o : Nat) : Int)) := by rw [List.range_succ, List.map_append, List.map_cons, List.map_nil, HNN.out]; exact hA2
                  have hI12 : LwI g w (rawOf H) fv cv (.slice none 0 0) [] w12 := ⟨HIL.out.bel.grown hG2 (by have := heap_lt HIL.out.hx; omega) (fun k hk => by have := (HAL.out.own k hk).1; omega), own_block HAL.out hG2 HIL.out.hx (.inl (by omega)), Ints.nil _ _⟩
                  have hW12 : w12.heap[ob]? = some (.cells (irow m (cst WW)) 3 (0, 0)) := own_block HAL.out hG2 HWL.out (.inl hob7)
                  have HA12 := hid hA3
                  have HI12 := hid hI12
                  have HW12 := hid hW12
                  clear hA2 hA3 hG2 hI12 hW12 HAL HIL HWL HA11 HI11 HWR11 hcL hgL HA9 HI9 HWR9 HI10 HCI
                  go_wp2_with fail
                  go_loopw [13, 14] (fun a b wr => ∃ x y : Nat, a = .int .i64 ((x : Nat) : Int) ∧ b = .int .i64 ((y : Nat) : Int) ∧ Nat.gcd x y = Nat.gcd nn D ∧ x ≤ 1000000000000000 ∧ y ≤ 1000000000000000 ∧ Below w12.heap.size w12 wr) (fun _ b _ => (intOf b).toNat)
                  case atStart => exact ⟨nn, D, rfl, rfl, rfl, hcl, hgl, Below.refl _ _⟩
                  case round =>
                    obtain ⟨x, y, rfl, rfl, hgc, hx, hy, hbB⟩ := hrel
                    have HBB := hid hbB
                    clear hbB
                    rcases Nat.eq_zero_or_pos y with h0 | h0
                    · subst h0
                      rw [Nat.gcd_zero_right] at hgc
                      have hib : IntKind.i64.wrap (((i : Nat) : Int) + 1) = ((i + 1 : Nat) : Int) := (IntWalk.i64_in _ (by omega)).trans (by omega)
                      go_wp2_with fail
                      go_roundw
                      case rel => exact ⟨i + 1, sm + nn, by omega, rfl, HA12.out.below HBB.out, Nat.le_trans hz12 HBB.out.size, rfl, HS.out, by rw [HGS.out, ← hgc], HI12.out.below HBB.out, heap_below HBB.out HW12.out (heap_lt HW12.out)⟩
                      case measure => simp only [intOf, Int.toNat_natCast]; omega
                    · have hy0 : (((y : Nat) : Int) == 0) = false := by simp; omega
                      have hyn : ¬ y = 0 := by omega
                      obtain ⟨r, hr⟩ : ∃ r, x % y = r := ⟨_, rfl⟩
                      have hry : r < y := hr ▸ Nat.mod_lt _ h0
                      have hr1 : ((x : Nat) : Int) % ((y : Nat) : Int) = ((r : Nat) : Int) := by rw [← hr]; simp
                      have hrw : IntKind.i64.wrap ((r : Nat) : Int) = ((r : Nat) : Int) := IntWalk.i64_in _ (by omega)
                      have HGC := hid (show Nat.gcd y r = Nat.gcd nn D by rw [← hgc, ← hr, Nat.gcd_comm x y, Nat.gcd_rec y x, Nat.gcd_comm])
                      clear hgc hr
                      go_upto_region 22 with fail
                      go_quiet (fail)
                      go_roundw
                      case rel => (repeat apply Exists.intro); exact ⟨⟨y, r, rfl, congrArg (Value.int .i64) hr1, HGC.out, hy, by omega, HBB.out.trans ⟨rfl, rfl, rfl, Nat.le_refl _, fun _ _ => rfl⟩⟩, rfl⟩
                      case measure => exact Nat.lt_of_le_of_lt (Nat.le_of_eq (congrArg Int.toNat hr1)) (by simp only [intOf, Int.toNat_natCast]; exact hry)
                · obtain rfl : i = m := by omega
                  have hin : decide (((i : Nat) : Int) < ((i : Nat) : Int)) = false := decide_eq_false (by omega)
                  have ⟨k0, k1, k2, k3, k4, k5, k6, k7⟩ := cells8 hI.hx
                  have hgl := gcdW_le CN 1000000000000000 hCN i
                  have hgp := HGP.out
                  have HQ := hid (fun h (j : Nat) (hj : j < i) => (HEQ.out h j hj).symm)
                  obtain ⟨D, hD⟩ : ∃ D, gcdW CN i = D := ⟨_, rfl⟩
                  rw [hD] at hgl hgp HQ ⊢
                  have hD0 : (((D : Nat) : Int) == 0) = false := by simp; omega
                  have hDp : decide ((0 : Int) < ((D : Nat) : Int)) = true := decide_eq_true (by omega)
                  have hDp' : (0 : Int) < ((D : Nat) : Int) := by omega
                  have hDn : ¬ D = 0 := by omega
                  have HI9 := hid hI
                  have HW9 := hid hW
                  have HA9 := hid hA
                  clear hI hW hA hsm him hD
                  by_cases h3 : (rawOf H).kind = 3
                  · have r1 : ((rawOf H).kind == 3) = true := by simp [h3]
                    by_cases h31 : 1 < (rawOf H).changes
                    · have r2 : decide (1 < (rawOf H).changes) = true := decide_eq_true h31
                      go_wp2_with (go_at_call 12; refine (known_c _).mono ?_; rintro e wk ⟨rfl, hbk⟩; have HIK := hid (HI9.out.below hbk))
                      go_ret
                      exact ⟨rfl, by rw [hg]; exact HIK.out.bel⟩
                    · have r2 : decide (1 < (rawOf H).changes) = false := decide_eq_false h31
                      have HQ2 := hid (HQ.out (fun h => h31 (by show (1 : Int) < ((H.changes : Nat) : Int); omega)))
                      obtain ⟨q0, cap0, hpe, -, -⟩ := HA9.out.form (by rw [List.length_map, List.length_range]; omega)
                      rw [List.length_map, List.length_range] at hpe
                      subst hpe
                      go_wp2_with fail
                      clear k0 k1 k2 k3 k4 k5 k6 k7
                      go_loopw [15] (fun ix wr' => ∃ j : Nat, j ≤ i ∧ ix = .int .i64 ((j : Nat) : Int) ∧ Below wr.heap.size wr wr') (fun ix _ => i - (intOf ix).toNat)
                      case atStart => exact ⟨0, by omega, rfl, Below.refl _ _⟩
                      case round =>
                        obtain ⟨j, hj, rfl, hbj⟩ := hrel
                        have HBJ := hid hbj
                        clear hbj
                        rcases Nat.lt_or_ge j i with hlt | hge
                        · have hjn : decide (((j : Nat) : Int) < ((i : Nat) : Int)) = true := decide_eq_true (by omega)
                          have hjn' : ((j : Nat) : Int) < ((i : Nat) : Int) := by omega
                          have hj0 : (0 : Int) ≤ ((j : Nat) : Int) := by omega
                          have hq := HQ2.out j hlt
                          have hcl := hCN j
                          obtain ⟨x, hx⟩ : ∃ x, CN j = x := ⟨_, rfl⟩
                          obtain ⟨y, hy⟩ : ∃ y, WW j = y := ⟨_, rfl⟩
                          rw [hx] at hq hcl
                          rw [hy] at hq
                          have cw := cell_irow (heap_below HBJ.out HW9.out (heap_lt HW9.out)) j hlt
                          simp only [cst] at cw
                          rw [hy] at cw
                          have ca := (HA9.out.below HBJ.out).at j (by rw [List.length_map, List.length_range]; exact hlt)
                          simp only [List.getElem_map, List.getElem_range, hx] at ca
                          have hyl : y ≤ x := hq ▸ Nat.div_le_self _ _
                          have hq1 : ((x : Nat) : Int) / ((D : Nat) : Int) = ((y : Nat) : Int) := by rw [← hq]; simp
                          have hqw : IntKind.i64.wrap ((y : Nat) : Int) = ((y : Nat) : Int) := IntWalk.i64_in _ (by omega)
                          have hne : (((y : Nat) : Int) != ((y : Nat) : Int)) = false := by simp
                          have hjw : IntKind.i64.wrap (((j : Nat) : Int) + 1) = ((j + 1 : Nat) : Int) := (IntWalk.i64_in _ (by omega)).trans (by omega)
                          clear hq hx hy hyl hcl
                          go_upto_region 28 with fail
                          go_quiet (fail)
                          go_wp2_with fail
                          go_roundw
                          case rel => exact ⟨j + 1, by omega, rfl, HBJ.out.trans ⟨rfl, rfl, rfl, Nat.le_refl _, fun _ _ => rfl⟩⟩
                          case measure => simp only [intOf, Int.toNat_natCast]; omega
                        · have hjn : decide (((j : Nat) : Int) < ((i : Nat) : Int)) = false := decide_eq_false (by omega)
                          have hjn' : ¬ ((j : Nat) : Int) < ((i : Nat) : Int) := by omega
                          go_wp2_with (go_at_call 12; refine (known_c _).mono ?_; rintro e wk ⟨rfl, hbk⟩; have HIK := hid ((HI9.out.below HBJ.out).below hbk))
                          go_ret
                          exact ⟨rfl, by rw [hg]; exact HIK.out.bel⟩
                  · have r1 : ((rawOf H).kind == 3) = false := by simp [h3]
                    have HQ2 := hid (HQ.out (fun h => h3 (by show ((H.kind : Nat) : Int) = 3; omega)))
                    obtain ⟨q0, cap0, hpe, -, -⟩ := HA9.out.form (by rw [List.length_map, List.length_range]; omega)
                    rw [List.length_map, List.length_range] at hpe
                    subst hpe
                    go_wp2_with fail
                    clear k0 k1 k2 k3 k4 k5 k6 k7
                    go_loopw [15] (fun ix wr' => ∃ j : Nat, j ≤ i ∧ ix = .int .i64 ((j : Nat) : Int) ∧ Below wr.heap.size wr wr') (fun ix _ => i - (intOf ix).toNat)
                    case atStart => exact ⟨0, by omega, rfl, Below.refl _ _⟩
                    case round =>
                      obtain ⟨j, hj, rfl, hbj⟩ := hrel
                      have HBJ := hid hbj
                      clear hbj
                      rcases Nat.lt_or_ge j i with hlt | hge
                      · have hjn : decide (((j : Nat) : Int) < ((i : Nat) : Int)) = true := decide_eq_true (by omega)
                        have hjn' : ((j : Nat) : Int) < ((i : Nat) : Int) := by omega
                        have hj0 : (0 : Int) ≤ ((j : Nat) : Int) := by omega
                        have hq := HQ2.out j hlt
                        have hcl := hCN j
                        obtain ⟨x, hx⟩ : ∃ x, CN j = x := ⟨_, rfl⟩
                        obtain ⟨y, hy⟩ : ∃ y, WW j = y := ⟨_, rfl⟩
                        rw [hx] at hq hcl
                        rw [hy] at hq
                        have cw := cell_irow (heap_below HBJ.out HW9.out (heap_lt HW9.out)) j hlt
                        simp only [cst] at cw
                        rw [hy] at cw
                        have ca := (HA9.out.below HBJ.out).at j (by rw [List.length_map, List.length_range]; exact hlt)
                        simp only [List.getElem_map, List.getElem_range, hx] at ca
                        have hyl : y ≤ x := hq ▸ Nat.div_le_self _ _
                        have hq1 : ((x : Nat) : Int) / ((D : Nat) : Int) = ((y : Nat) : Int) := by rw [← hq]; simp
                        have hqw : IntKind.i64.wrap ((y : Nat) : Int) = ((y : Nat) : Int) := IntWalk.i64_in _ (by omega)
                        have hne : (((y : Nat) : Int) != ((y : Nat) : Int)) = false := by simp
                        have hjw : IntKind.i64.wrap (((j : Nat) : Int) + 1) = ((j + 1 : Nat) : Int) := (IntWalk.i64_in _ (by omega)).trans (by omega)
                        clear hq hx hy hyl hcl
                        go_upto_region 28 with fail
                        go_quiet (fail)
                        go_wp2_with fail
                        go_roundw
                        case rel => exact ⟨j + 1, by omega, rfl, HBJ.out.trans ⟨rfl, rfl, rfl, Nat.le_refl _, fun _ _ => rfl⟩⟩
                        case measure => simp only [intOf, Int.toNat_natCast]; omega
                      · have hjn : decide (((j : Nat) : Int) < ((i : Nat) : Int)) = false := decide_eq_false (by omega)
                        have hjn' : ¬ ((j : Nat) : Int) < ((i : Nat) : Int) := by omega
                        go_wp2_with (go_at_call 12; refine (known_c _).mono ?_; rintro e wk ⟨rfl, hbk⟩; have HIK := hid ((HI9.out.below HBJ.out).below hbk))
                        go_ret
                        exact ⟨rfl, by rw [hg]; exact HIK.out.bel⟩
            · skip
              have HCSh := hid (HCS.out.2 hall)
              go_loopw [7, 8, 9, 10] (fun av sv dv ix wr => ix = .int .i64 0 ∧ LwI g w (rawOf H) fv cv (.slice none 0 0) [] wr) (fun _ _ _ _ _ => 0)
              case atStart => exact ⟨rfl, HI8.out⟩
              case round =>
                obtain ⟨rfl, hI⟩ := hrel
                have HI9 := hid hI
                have hin : decide ((0 : Int) < ((m : Nat) : Int)) = true := decide_eq_true (by omega)
                have hin' : (0 : Int) < ((m : Nat) : Int) := by omega
                have HCI := hid (HCSh.out 0 (by omega))
                clear hI
                go_wp2_with (first
                  | (refine wpList_value rfl (by intro c hc; cases hc) (.agg (handR (rawOf H) fv cv)) (exec_ldR rfl rfl HI9.out.hx) ?_)
                  | (go_at_call 15; refine (HOW.out _ HI9.out.bel).mono ?_; rintro e w10 ⟨fx, cx, rfl, hfx, hcx, hbx⟩; have HI10 := hid (HI9.out.below hbx))
                  | (go_at_call 20; refine (HCI.out fx cx w10 hfx hcx).mono ?_; rintro e w11 ⟨rfl, hbz⟩; have HI11 := hid (HI10.out.below hbz))
                  | (go_at_call 12; refine (known_c _).mono ?_; rintro e wk ⟨rfl, hbk⟩; have HIK := hid (HI11.out.below hbk)))
                go_ret
                exact ⟨rfl, by rw [hg]; exact HIK.out.bel⟩
          · skip
            have HWT := hid (HW2.out hdn)
            go_wp2_with (first
              | (refine wpList_value rfl (by intro c hc; cases hc) (.agg (handR (rawOf H) fv cv)) (exec_ldR rfl rfl HI3.out.hx) ?_)
              | (refine wpList_value rfl (by intro c hc; cases hc) (.agg (handR (rawOf H) fv cv)) (exec_ldR rfl rfl HI5.out.hx) ?_)
              | (go_at_call 15; refine (HOW.out _ HI3.out.bel).mono ?_; rintro e w4 ⟨fx, cx, rfl, hfx, hcx, hbx⟩; have HI4 := hid (HI3.out.below hbx))
              | (go_at_call 14; refine (HWT.out fx cx w4 hfx hcx).mono ?_; rintro e w5 ⟨rfl, hbz⟩; have HI5 := hid (HI4.out.below hbz); clear hfx hcx hbx hbz HI3 HI4)
              | (go_at_call 15; refine (HOW.out _ HI5.out.bel).mono ?_; rintro e w6 ⟨fx, cx, rfl, hfx, hcx, hbx⟩; have HI6 := hid (HI5.out.below hbx))
              | (go_at_call 27; refine (HOC.out fx cx w6 hfx hcx).mono ?_; rintro e w7 ⟨rfl, hbz⟩; have HI7 := hid (HI6.out.below hbz))
              | (go_at_call 12; refine (known_c _).mono ?_; rintro e wk ⟨rfl, hbk⟩; have HIK := hid (HI7.out.below hbk)))
            go_ret
            exact ⟨rfl, by rw [hg]; exact HIK.out.bel⟩
        · have q1 : ((rawOf H).kind == 4) = false := by simp [hk4]
          clear hk3 hk4
          go_enter Try.func6, Try.ntmps6
          go_upto_region 3 with (first
            | (refine wpList_value rfl (by intro c hc; cases hc) (.agg (handR (rawOf H) fv cv)) (exec_ldR rfl rfl HX.out) ?_)
            | (go_at_call 11; refine (HLG.out _).mono ?_; rintro e w1 ⟨rfl, hb1⟩; have HB1 := hid (HB.out.trans (hb1.mono (by simp; omega))); have HX1 := hid (heap_below hb1 HX.out (heap_lt HX.out)); have ⟨k0, k1, k2, k3, k4, k5, k6, k7⟩ := cells8 HX1.out; have hg1 : g < w1.heap.size := heap_lt HX1.out)
            | (go_at_call 15; refine (HOW.out _ HB1.out).mono ?_; rintro e w2 ⟨f1, c1, rfl, hf1, hc1, hb2⟩; have HB2 := hid (HB1.out.trans (hb2.mono (by omega))); have HX2 := hid (heap_below hb2 HX1.out (heap_lt HX1.out)); have hg2 : g < w2.heap.size := heap_lt HX2.out)
            | (go_at_call 26; refine (HCK.out f1 c1 w2 hf1 hc1).mono ?_; rintro e w3 ⟨rfl, hb3⟩; have HB3 := hid (HB2.out.trans (hb3.mono (by omega))); have HX3 := hid (heap_below hb3 HX2.out (heap_lt HX2.out)); have ⟨m0, m1, m2, m3, m4, m5, m6, m7⟩ := cells8 HX3.out; have hg3 : g < w3.heap.size := heap_lt HX3.out))
          have HI3 := hid (show LwI g w (rawOf H) fv cv (.slice none 0 0) [] w3 from ⟨HB3.out, HX3.out, Ints.nil _ _⟩)
          clear HX HX1 HX2 HX3 HB HB1 HB2 HB3 hb1 hb2 hb3 hf1 hc1 k0 k1 k2 k3 k4 k5 k6 k7 m0 m1 m2 m3 m4 m5 m6 m7
          by_cases hdn : dnK H s0 (dep s0) ≤ 1000000000000000
          · skip
            have HWT := hid (HW1.out hdn)
            go_upto_region 4 with (first
              | (refine wpList_value rfl (by intro c hc; cases hc) (.agg (handR (rawOf H) fv cv)) (exec_ldR rfl rfl HI3.out.hx) ?_)
              | (go_at_call 15; refine (HOW.out _ HI3.out.bel).mono ?_; rintro e w4 ⟨fx, cx, rfl, hfx, hcx, hbx⟩; have HI4 := hid (HI3.out.below hbx))
              | (go_at_call 14; refine (HWT.out fx cx w4 hfx hcx).mono ?_; rintro e w5 ⟨ob, rfl, hob, hw5, hbz⟩; have HI5 := hid (HI4.out.below hbz); have hgo : g < ob := Nat.lt_of_lt_of_le (heap_lt HI4.out.hx) hob; have HWR := hid hw5; clear hfx hcx hbx hbz hw5))
            go_upto_region 9 with (first
              | (refine wpList_value rfl (by intro c hc; cases hc) (.agg (handR (rawOf H) fv cv)) (exec_ldR rfl rfl HI5.out.hx) ?_)
              | (go_at_call 15; refine (HOW.out _ HI5.out.bel).mono ?_; rintro e w6 ⟨fx, cx, rfl, hfx, hcx, hbx⟩; have HI6 := hid (HI5.out.below hbx))
              | (go_at_call 27; refine (HOC.out fx cx w6 hfx hcx).mono ?_; rintro e w7 ⟨rfl, hbz⟩; have HI7 := hid (HI6.out.below hbz)))
            have HWR := hid (heap_below hbz (heap_below hbx HWR.out (heap_lt HWR.out)) (heap_lt (heap_below hbx HWR.out (heap_lt HWR.out))))
            clear hfx hcx hbx hbz
            have hbL : Below w7.heap.size w7 (w7.alloc (.cells #[] 3)) := (Below.refl _ _).alloc (Nat.le_refl _) _
            have hg7 : g < w7.heap.size := heap_lt HI7.out.hx
            have hm7 := Ints.made w7 w7.heap.size (Nat.le_refl _)
            have hz8 : w7.heap.size ≤ (w7.alloc (.cells #[] 3)).heap.size := hbL.size
            have HI8 := hid (HI7.out.below hbL)
            have HWR8 := hid (heap_below hbL HWR.out (heap_lt HWR.out))
            have HM8 := hid hm7
            have hob7 : ob < w7.heap.size := heap_lt HWR.out
            clear hbL hm7 HWR
            go_wp2_with fail
            obtain ⟨z, hz⟩ : ∃ z, w7.heap.size = z := ⟨_, rfl⟩
            rw [hz] at HM8 hob7 hz8 ⊢
            obtain ⟨w8, hw8⟩ : ∃ w8, w7.alloc (.cells #[] 3) = w8 := ⟨_, rfl⟩
            rw [hw8] at HI8 HWR8 HM8 hz8 ⊢
            clear hw8 hz
            by_cases hall : cntO H (-1) s0 ≤ 1000000000000000
            · skip
              have HCSh := hid (HCS.out.1 hall)
              have hCN := HCN.out hall
              go_loopw [7, 8, 9, 10] (fun av sv dv ix wr => ∃ (i sm : Nat), i ≤ m ∧ ix = .int .i64 ((i : Nat) : Int) ∧ Ints wr z av ((List.range i).map fun o => ((CN o : Nat) : Int)) ∧ z ≤ wr.heap.size ∧ sv = .int .i64 ((sm : Nat) : Int) ∧ sm ≤ i * 1000000000000000 ∧ dv = .int .i64 ((gcdW CN i : Nat) : Int) ∧ LwI g w (rawOf H) fv cv (.slice none 0 0) [] wr ∧ wr.heap[ob]? = some (.cells (irow m (cst WW)) 3 (0, 0))) (fun _ _ _ ix _ => m - (intOf ix).toNat)
              case atStart => exact ⟨0, 0, by omega, rfl, HM8.out, hz8, rfl, by omega, rfl, HI8.out, HWR8.out⟩
              case round =>
                clear HI8 HM8 HWR8 HI3 HI4 HI5 HI6 HI7
                obtain ⟨i, sm, him, rfl, hA, hzs, rfl, hsm, rfl, hI, hW⟩ := hrel
                rcases Nat.lt_or_ge i m with hlt | hge
                · have hin : decide (((i : Nat) : Int) < ((m : Nat) : Int)) = true := decide_eq_true (by omega)
                  have hin' : ((i : Nat) : Int) < ((m : Nat) : Int) := by omega
                  have hi0 : (0 : Int) ≤ ((i : Nat) : Int) := by omega
                  have hcl := hCN i
                  have hpo := HPO.out i hlt
                  have hgl := gcdW_le CN 1000000000000000 hCN i
                  have hgs : gcdW CN (i + 1) = Nat.gcd (CN i) (gcdW CN i) := rfl
                  have HI9 := hid hI
                  have HWR9 := hid hW
                  have HA9 := hid hA
                  have HCI := hid (HCSh.out i hlt)
                  obtain ⟨nn, hnn⟩ : ∃ nn, CN i = nn := ⟨_, rfl⟩
                  obtain ⟨wv, hwv⟩ : ∃ wv, WW i = wv := ⟨_, rfl⟩
                  obtain ⟨D, hD⟩ : ∃ D, gcdW CN i = D := ⟨_, rfl⟩
                  rw [hnn] at hcl hpo HCI hgs
                  rw [hwv] at hpo
                  rw [hD] at hgl hgs ⊢
                  have hbn : (!decide (0 < nn) == decide (0 < wv)) = false := by by_cases h : 0 < nn; (have := hpo.1 h; simp [h, this]); (have h' : ¬ 0 < wv := fun h' => h (hpo.2 h'); simp [h, h'])
                  have hn0 : decide (((nn : Nat) : Int) < 0) = false := decide_eq_false (by omega)
                  have hw0 : decide (((wv : Nat) : Int) < 0) = false := decide_eq_false (by omega)
                  have hn0' : ¬ ((nn : Nat) : Int) < 0 := by omega
                  have hw0' : ¬ ((wv : Nat) : Int) < 0 := by omega
                  have hsw : IntKind.i64.wrap (((sm : Nat) : Int) + ((nn : Nat) : Int)) = ((sm + nn : Nat) : Int) := (IntWalk.i64_in _ (by omega)).trans (by omega)
                  have HS := hid (show sm + nn ≤ (i + 1) * 1000000000000000 by omega)
                  have HNN := hid hnn
                  have HDD := hid hD
                  have HGS := hid hgs
                  clear hI hW hA hpo hsm hnn hD hgs him
                  go_upto_region 16 with (first
                    | (refine wpList_value rfl (by intro c hc; cases hc) (.agg (handR (rawOf H) fv cv)) (exec_ldR rfl rfl HI9.out.hx) ?_)
                    | (go_at_call 15; refine (HOW.out _ HI9.out.bel).mono ?_; rintro e w10 ⟨fx, cx, rfl, hfx, hcx, hbx⟩; have HI10 := hid (HI9.out.below hbx))
                    | (go_at_call 20; refine (HCI.out fx cx w10 hfx hcx).mono ?_; rintro e w11 ⟨rfl, hbz⟩; have HI11 := hid (HI10.out.below hbz); have HWR11 := hid (heap_below hbz (heap_below hbx HWR9.out (heap_lt HWR9.out)) (heap_lt (heap_below hbx HWR9.out (heap_lt HWR9.out)))); have HA11 := hid ((HA9.out.below hbx).below hbz); have hz11 : z ≤ w11.heap.size := Nat.le_trans hzs (Nat.le_trans hbx.size hbz.size); clear hfx hcx hbx hbz))
                  have cw : w11.cell? ⟨ob, i, none⟩ = some (.int .i64 ((wv : Nat) : Int)) := by rw [← hwv]; exact cell_irow HWR11.out i hlt
                  go_upto_region 18 with fail
                  have hbL : Below w11.heap.size w11 (w11.alloc (.cells #[.int .i64 ((nn : Nat) : Int)] 3)) := (Below.refl _ _).alloc (Nat.le_refl _) _
                  have hcL : (w11.alloc (.cells #[.int .i64 ((nn : Nat) : Int)] 3)).cell? ⟨w11.heap.size, 0, none⟩ = some (.int .i64 ((nn : Nat) : Int)) := Boxed.cell (show Boxed _ _ 3 _ from heap_alloc_new w11 _)
                  have HAL := hid (HA11.out.below hbL)
                  have HIL := hid (HI11.out.below hbL)
                  have HWL := hid (heap_below hbL HWR11.out (heap_lt HWR11.out))
                  have hgL : z ≤ (w11.alloc (.cells #[.int .i64 ((nn : Nat) : Int)] 3)).heap.size := Nat.le_trans hz11 hbL.size
                  clear hbL cw
                  go_upto_region 19 with (refine wp_append_int rfl (.tmp 114) (.tmp 116) rfl z u7 ((List.range i).map fun o => ((CN o : Nat) : Int)) rfl HAL.out ((nn : Nat) : Int) w11.heap.size 1 rfl hcL (by rw [List.length_map, List.length_range]; omega) hgL ?_; intro av2 w12 hA2 hG2)
                  have hz12 : z ≤ w12.heap.size := Nat.le_trans hgL hG2.size
                  have hA3 : Ints w12 z av2 ((List.range (i + 1)).map fun o => ((CN o : Nat) : Int)) := by rw [List.range_succ, List.map_append, List.map_cons, List.map_nil, HNN.out]; exact hA2
                  have hI12 : LwI g w (rawOf H) fv cv (.slice none 0 0) [] w12 := ⟨HIL.out.bel.grown hG2 (by have := heap_lt HIL.out.hx; omega) (fun k hk => by have := (HAL.out.own k hk).1; omega), own_block HAL.out hG2 HIL.out.hx (.inl (by omega)), Ints.nil _ _⟩
                  have hW12 : w12.heap[ob]? = some (.cells (irow m (cst WW)) 3 (0, 0)) := own_block HAL.out hG2 HWL.out (.inl hob7)
                  have HA12 := hid hA3
                  have HI12 := hid hI12
                  have HW12 := hid hW12
                  clear hA2 hA3 hG2 hI12 hW12 HAL HIL HWL HA11 HI11 HWR11 hcL hgL HA9 HI9 HWR9 HI10 HCI
                  go_wp2_with fail
                  go_loopw [13, 14] (fun a b wr => ∃ x y : Nat, a = .int .i64 ((x : Nat) : Int) ∧ b = .int .i64 ((y : Nat) : Int) ∧ Nat.gcd x y = Nat.gcd nn D ∧ x ≤ 1000000000000000 ∧ y ≤ 1000000000000000 ∧ Below w12.heap.size w12 wr) (fun _ b _ => (intOf b).toNat)
                  case atStart => exact ⟨nn, D, rfl, rfl, rfl, hcl, hgl, Below.refl _ _⟩
                  case round =>
                    obtain ⟨x, y, rfl, rfl, hgc, hx, hy, hbB⟩ := hrel
                    have HBB := hid hbB
                    clear hbB
                    rcases Nat.eq_zero_or_pos y with h0 | h0
                    · subst h0
                      rw [Nat.gcd_zero_right] at hgc
                      have hib : IntKind.i64.wrap (((i : Nat) : Int) + 1) = ((i + 1 : Nat) : Int) := (IntWalk.i64_in _ (by omega)).trans (by omega)
                      go_wp2_with fail
                      go_roundw
                      case rel => exact ⟨i + 1, sm + nn, by omega, rfl, HA12.out.below HBB.out, Nat.le_trans hz12 HBB.out.size, rfl, HS.out, by rw [HGS.out, ← hgc], HI12.out.below HBB.out, heap_below HBB.out HW12.out (heap_lt HW12.out)⟩
                      case measure => simp only [intOf, Int.toNat_natCast]; omega
                    · have hy0 : (((y : Nat) : Int) == 0) = false := by simp; omega
                      have hyn : ¬ y = 0 := by omega
                      obtain ⟨r, hr⟩ : ∃ r, x % y = r := ⟨_, rfl⟩
                      have hry : r < y := hr ▸ Nat.mod_lt _ h0
                      have hr1 : ((x : Nat) : Int) % ((y : Nat) : Int) = ((r : Nat) : Int) := by rw [← hr]; simp
                      have hrw : IntKind.i64.wrap ((r : Nat) : Int) = ((r : Nat) : Int) := IntWalk.i64_in _ (by omega)
                      have HGC := hid (show Nat.gcd y r = Nat.gcd nn D by rw [← hgc, ← hr, Nat.gcd_comm x y, Nat.gcd_rec y x, Nat.gcd_comm])
                      clear hgc hr
                      go_upto_region 22 with fail
                      go_quiet (fail)
                      go_roundw
                      case rel => (repeat apply Exists.intro); exact ⟨⟨y, r, rfl, congrArg (Value.int .i64) hr1, HGC.out, hy, by omega, HBB.out.trans ⟨rfl, rfl, rfl, Nat.le_refl _, fun _ _ => rfl⟩⟩, rfl⟩
                      case measure => exact Nat.lt_of_le_of_lt (Nat.le_of_eq (congrArg Int.toNat hr1)) (by simp only [intOf, Int.toNat_natCast]; exact hry)
                · obtain rfl : i = m := by omega
                  have hin : decide (((i : Nat) : Int) < ((i : Nat) : Int)) = false := decide_eq_false (by omega)
                  have ⟨k0, k1, k2, k3, k4, k5, k6, k7⟩ := cells8 hI.hx
                  have hgl := gcdW_le CN 1000000000000000 hCN i
                  have hgp := HGP.out
                  have HQ := hid (fun h (j : Nat) (hj : j < i) => (HEQ.out h j hj).symm)
                  obtain ⟨D, hD⟩ : ∃ D, gcdW CN i = D := ⟨_, rfl⟩
                  rw [hD] at hgl hgp HQ ⊢
                  have hD0 : (((D : Nat) : Int) == 0) = false := by simp; omega
                  have hDp : decide ((0 : Int) < ((D : Nat) : Int)) = true := decide_eq_true (by omega)
                  have hDp' : (0 : Int) < ((D : Nat) : Int) := by omega
                  have hDn : ¬ D = 0 := by omega
                  have HI9 := hid hI
                  have HW9 := hid hW
                  have HA9 := hid hA
                  clear hI hW hA hsm him hD
                  by_cases h3 : (rawOf H).kind = 3
                  · have r1 : ((rawOf H).kind == 3) = true := by simp [h3]
                    by_cases h31 : 1 < (rawOf H).changes
                    · have r2 : decide (1 < (rawOf H).changes) = true := decide_eq_true h31
                      go_wp2_with (go_at_call 12; refine (known_c _).mono ?_; rintro e wk ⟨rfl, hbk⟩; have HIK := hid (HI9.out.below hbk))
                      go_ret
                      exact ⟨rfl, by rw [hg]; exact HIK.out.bel⟩
                    · have r2 : decide (1 < (rawOf H).changes) = false := decide_eq_false h31
                      have HQ2 := hid (HQ.out (fun h => h31 (by show (1 : Int) < ((H.changes : Nat) : Int); omega)))
                      obtain ⟨q0, cap0, hpe, -, -⟩ := HA9.out.form (by rw [List.length_map, List.length_range]; omega)
                      rw [List.length_map, List.length_range] at hpe
                      subst hpe
                      go_wp2_with fail
                      clear k0 k1 k2 k3 k4 k5 k6 k7
                      go_loopw [15] (fun ix wr' => ∃ j : Nat, j ≤ i ∧ ix = .int .i64 ((j : Nat) : Int) ∧ Below wr.heap.size wr wr') (fun ix _ => i - (intOf ix).toNat)
                      case atStart => exact ⟨0, by omega, rfl, Below.refl _ _⟩
                      case round =>
                        obtain ⟨j, hj, rfl, hbj⟩ := hrel
                        have HBJ := hid hbj
                        clear hbj
                        rcases Nat.lt_or_ge j i with hlt | hge
                        · have hjn : decide (((j : Nat) : Int) < ((i : Nat) : Int)) = true := decide_eq_true (by omega)
                          have hjn' : ((j : Nat) : Int) < ((i : Nat) : Int) := by omega
                          have hj0 : (0 : Int) ≤ ((j : Nat) : Int) := by omega
                          have hq := HQ2.out j hlt
                          have hcl := hCN j
                          obtain ⟨x, hx⟩ : ∃ x, CN j = x := ⟨_, rfl⟩
                          obtain ⟨y, hy⟩ : ∃ y, WW j = y := ⟨_, rfl⟩
                          rw [hx] at hq hcl
                          rw [hy] at hq
                          have cw := cell_irow (heap_below HBJ.out HW9.out (heap_lt HW9.out)) j hlt
                          simp only [cst] at cw
                          rw [hy] at cw
                          have ca := (HA9.out.below HBJ.out).at j (by rw [List.length_map, List.length_range]; exact hlt)
                          simp only [List.getElem_map, List.getElem_range, hx] at ca
                          have hyl : y ≤ x := hq ▸ Nat.div_le_self _ _
                          have hq1 : ((x : Nat) : Int) / ((D : Nat) : Int) = ((y : Nat) : Int) := by rw [← hq]; simp
                          have hqw : IntKind.i64.wrap ((y : Nat) : Int) = ((y : Nat) : Int) := IntWalk.i64_in _ (by omega)
                          have hne : (((y : Nat) : Int) != ((y : Nat) : Int)) = false := by simp
                          have hjw : IntKind.i64.wrap (((j : Nat) : Int) + 1) = ((j + 1 : Nat) : Int) := (IntWalk.i64_in _ (by omega)).trans (by omega)
                          clear hq hx hy hyl hcl
                          go_upto_region 28 with fail
                          go_quiet (fail)
                          go_wp2_with fail
                          go_roundw
                          case rel => exact ⟨j + 1, by omega, rfl, HBJ.out.trans ⟨rfl, rfl, rfl, Nat.le_refl _, fun _ _ => rfl⟩⟩
                          case measure => simp only [intOf, Int.toNat_natCast]; omega
                        · have hjn : decide (((j : Nat) : Int) < ((i : Nat) : Int)) = false := decide_eq_false (by omega)
                          have hjn' : ¬ ((j : Nat) : Int) < ((i : Nat) : Int) := by omega
                          go_wp2_with (go_at_call 12; refine (known_c _).mono ?_; rintro e wk ⟨rfl, hbk⟩; have HIK := hid ((HI9.out.below HBJ.out).below hbk))
                          go_ret
                          exact ⟨rfl, by rw [hg]; exact HIK.out.bel⟩
                  · have r1 : ((rawOf H).kind == 3) = false := by simp [h3]
                    have HQ2 := hid (HQ.out (fun h => h3 (by show ((H.kind : Nat) : Int) = 3; omega)))
                    obtain ⟨q0, cap0, hpe, -, -⟩ := HA9.out.form (by rw [List.length_map, List.length_range]; omega)
                    rw [List.length_map, List.length_range] at hpe
                    subst hpe
                    go_wp2_with fail
                    clear k0 k1 k2 k3 k4 k5 k6 k7
                    go_loopw [15] (fun ix wr' => ∃ j : Nat, j ≤ i ∧ ix = .int .i64 ((j : Nat) : Int) ∧ Below wr.heap.size wr wr') (fun ix _ => i - (intOf ix).toNat)
                    case atStart => exact ⟨0, by omega, rfl, Below.refl _ _⟩
                    case round =>
                      obtain ⟨j, hj, rfl, hbj⟩ := hrel
                      have HBJ := hid hbj
                      clear hbj
                      rcases Nat.lt_or_ge j i with hlt | hge
                      · have hjn : decide (((j : Nat) : Int) < ((i : Nat) : Int)) = true := decide_eq_true (by omega)
                        have hjn' : ((j : Nat) : Int) < ((i : Nat) : Int) := by omega
                        have hj0 : (0 : Int) ≤ ((j : Nat) : Int) := by omega
                        have hq := HQ2.out j hlt
                        have hcl := hCN j
                        obtain ⟨x, hx⟩ : ∃ x, CN j = x := ⟨_, rfl⟩
                        obtain ⟨y, hy⟩ : ∃ y, WW j = y := ⟨_, rfl⟩
                        rw [hx] at hq hcl
                        rw [hy] at hq
                        have cw := cell_irow (heap_below HBJ.out HW9.out (heap_lt HW9.out)) j hlt
                        simp only [cst] at cw
                        rw [hy] at cw
                        have ca := (HA9.out.below HBJ.out).at j (by rw [List.length_map, List.length_range]; exact hlt)
                        simp only [List.getElem_map, List.getElem_range, hx] at ca
                        have hyl : y ≤ x := hq ▸ Nat.div_le_self _ _
                        have hq1 : ((x : Nat) : Int) / ((D : Nat) : Int) = ((y : Nat) : Int) := by rw [← hq]; simp
                        have hqw : IntKind.i64.wrap ((y : Nat) : Int) = ((y : Nat) : Int) := IntWalk.i64_in _ (by omega)
                        have hne : (((y : Nat) : Int) != ((y : Nat) : Int)) = false := by simp
                        have hjw : IntKind.i64.wrap (((j : Nat) : Int) + 1) = ((j + 1 : Nat) : Int) := (IntWalk.i64_in _ (by omega)).trans (by omega)
                        clear hq hx hy hyl hcl
                        go_upto_region 28 with fail
                        go_quiet (fail)
                        go_wp2_with fail
                        go_roundw
                        case rel => exact ⟨j + 1, by omega, rfl, HBJ.out.trans ⟨rfl, rfl, rfl, Nat.le_refl _, fun _ _ => rfl⟩⟩
                        case measure => simp only [intOf, Int.toNat_natCast]; omega
                      · have hjn : decide (((j : Nat) : Int) < ((i : Nat) : Int)) = false := decide_eq_false (by omega)
                        have hjn' : ¬ ((j : Nat) : Int) < ((i : Nat) : Int) := by omega
                        go_wp2_with (go_at_call 12; refine (known_c _).mono ?_; rintro e wk ⟨rfl, hbk⟩; have HIK := hid ((HI9.out.below HBJ.out).below hbk))
                        go_ret
                        exact ⟨rfl, by rw [hg]; exact HIK.out.bel⟩
            · skip
              have HCSh := hid (HCS.out.2 hall)
              go_loopw [7, 8, 9, 10] (fun av sv dv ix wr => ix = .int .i64 0 ∧ LwI g w (rawOf H) fv cv (.slice none 0 0) [] wr) (fun _ _ _ _ _ => 0)
              case atStart => exact ⟨rfl, HI8.out⟩
              case round =>
                obtain ⟨rfl, hI⟩ := hrel
                have HI9 := hid hI
                have hin : decide ((0 : Int) < ((m : Nat) : Int)) = true := decide_eq_true (by omega)
                have hin' : (0 : Int) < ((m : Nat) : Int) := by omega
                have HCI := hid (HCSh.out 0 (by omega))
                clear hI
                go_wp2_with (first
                  | (refine wpList_value rfl (by intro c hc; cases hc) (.agg (handR (rawOf H) fv cv)) (exec_ldR rfl rfl HI9.out.hx) ?_)
                  | (go_at_call 15; refine (HOW.out _ HI9.out.bel).mono ?_; rintro e w10 ⟨fx, cx, rfl, hfx, hcx, hbx⟩; have HI10 := hid (HI9.out.below hbx))
                  | (go_at_call 20; refine (HCI.out fx cx w10 hfx hcx).mono ?_; rintro e w11 ⟨rfl, hbz⟩; have HI11 := hid (HI10.out.below hbz))
                  | (go_at_call 12; refine (known_c _).mono ?_; rintro e wk ⟨rfl, hbk⟩; have HIK := hid (HI11.out.below hbk)))
                go_ret
                exact ⟨rfl, by rw [hg]; exact HIK.out.bel⟩
          · skip
            have HWT := hid (HW2.out hdn)
            go_wp2_with (first
              | (refine wpList_value rfl (by intro c hc; cases hc) (.agg (handR (rawOf H) fv cv)) (exec_ldR rfl rfl HI3.out.hx) ?_)
              | (refine wpList_value rfl (by intro c hc; cases hc) (.agg (handR (rawOf H) fv cv)) (exec_ldR rfl rfl HI5.out.hx) ?_)
              | (go_at_call 15; refine (HOW.out _ HI3.out.bel).mono ?_; rintro e w4 ⟨fx, cx, rfl, hfx, hcx, hbx⟩; have HI4 := hid (HI3.out.below hbx))
              | (go_at_call 14; refine (HWT.out fx cx w4 hfx hcx).mono ?_; rintro e w5 ⟨rfl, hbz⟩; have HI5 := hid (HI4.out.below hbz); clear hfx hcx hbx hbz HI3 HI4)
              | (go_at_call 15; refine (HOW.out _ HI5.out.bel).mono ?_; rintro e w6 ⟨fx, cx, rfl, hfx, hcx, hbx⟩; have HI6 := hid (HI5.out.below hbx))
              | (go_at_call 27; refine (HOC.out fx cx w6 hfx hcx).mono ?_; rintro e w7 ⟨rfl, hbz⟩; have HI7 := hid (HI6.out.below hbz))
              | (go_at_call 12; refine (known_c _).mono ?_; rintro e wk ⟨rfl, hbk⟩; have HIK := hid (HI7.out.below hbk)))
            go_ret
            exact ⟨rfl, by rw [hg]; exact HIK.out.bel⟩
    · have hok' : okR R = false := by simpa using hok
      have HCK := hid (fun f c W (h1 : ReadsF W f R.faces) (h2 : ReadsA W c R.cards) => check_no R hok' f c W.heap.size W (RawAt.came h1 h2) (by omega) (by omega))
      clear hbig hsm hfe hce hrf hrc hok hok' hlf hlc
      go_enter Try.func6, Try.ntmps6
      go_wp2_with (first
        | (refine wpList_value rfl (by intro c hc; cases hc) (.agg (handR R fv cv)) (exec_ldR rfl rfl HX.out) ?_)
        | (go_at_call 11; refine (HLG.out _).mono ?_; rintro e w1 ⟨rfl, hb1⟩; have HB1 := hid (HB.out.trans (hb1.mono (by simp; omega))); have HX1 := hid (heap_below hb1 HX.out (heap_lt HX.out)); have ⟨k0, k1, k2, k3, k4, k5, k6, k7⟩ := cells8 HX1.out; have hg1 : g < w1.heap.size := heap_lt HX1.out)
        | (go_at_call 15; refine (HOW.out _ HB1.out).mono ?_; rintro e w2 ⟨f1, c1, rfl, hf1, hc1, hb2⟩; have HB2 := hid (HB1.out.trans (hb2.mono (by omega))); have HX2 := hid (heap_below hb2 HX1.out (heap_lt HX1.out)); have hg2 : g < w2.heap.size := heap_lt HX2.out)
        | (go_at_call 26; refine (HCK.out f1 c1 w2 hf1 hc1).mono ?_; rintro e w3 ⟨rfl, hb3⟩; have HB3 := hid (HB2.out.trans (hb3.mono (by omega))); have HX3 := hid (heap_below hb3 HX2.out (heap_lt HX2.out)); have ⟨m0, m1, m2, m3, m4, m5, m6, m7⟩ := cells8 HX3.out; have hg3 : g < w3.heap.size := heap_lt HX3.out)
        | (go_at_call 12; refine (known_c _).mono ?_; rintro e wk ⟨rfl, hbk⟩))
      go_ret
      exact ⟨rfl, by rw [hg]; exact HB3.out.trans (hbk.mono (by omega))⟩
end Go.Proofs.Ytmjnelkeiogdcaa
