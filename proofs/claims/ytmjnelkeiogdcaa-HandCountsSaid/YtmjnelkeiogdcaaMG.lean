/- The law HandWeights. -/
import Derived.Test.YtmjnelkeiogdcaaMF
import Derived.Test.YtmjnelkeiogdcaaJR
set_option linter.unusedSimpArgs false
set_option linter.unusedVariables false
namespace Go.Proofs.Ytmjnelkeiogdcaa
open Go Go.RowKit Go.Shelf
set_option maxRecDepth 100000

theorem wts_no (R : RH) (hok : okR R = false) (f c : Value) (W : World) (h1 : ReadsF W f R.faces) (h2 : ReadsA W c R.cards) (hf : R.faces.length ≤ 1000) (hc : R.cards.length ≤ 1000) :
    Calls Try.prog 14 #[.agg (handR R f c)] W fun e w' => e = .returned (.tuple #[.slice none 0 0, .int .i64 2]) ∧ Below W.heap.size W w' :=
  (callsIn_wide.1 (Weights_no R hok f c W.heap.size W (RawAt.came h1 h2) hf hc)).mono (by
    rintro e w' ⟨rfl, hb⟩
    exact ⟨rfl, hb⟩)
theorem wts_full (H : HV) (hV : Val H) (hd : ¬ dnH H ≤ 1000000000000000) (f c : Value) (W : World) (h1 : ReadsF W f (rawOf H).faces) (h2 : ReadsA W c (rawOf H).cards) :
    Calls Try.prog 14 #[.agg (handR (rawOf H) f c)] W fun e w' => e = .returned (.tuple #[.slice none 0 0, .int .i64 8]) ∧ Below W.heap.size W w' :=
  (callsIn_wide.1 (Weights_in 24 (by omega) W.heap.size H hV f c W (RawAt.came h1 h2))).mono (by
    rintro e w' ⟨hb, ⟨hd', _⟩ | ⟨_, rfl⟩⟩
    · exact absurd hd' hd
    · exact ⟨rfl, hb⟩)
theorem wts_ok (H : HV) (hV : Val H) (hd : dnH H ≤ 1000000000000000) (f c : Value) (W : World) (h1 : ReadsF W f (rawOf H).faces) (h2 : ReadsA W c (rawOf H).cards) :
    Calls Try.prog 14 #[.agg (handR (rawOf H) f c)] W fun e w' => ∃ ob, e = .returned (.tuple #[.slice (some ⟨ob, 0, none⟩) (outsN H) (outsN H), .int .i64 0]) ∧ w'.heap[ob]? = some (.cells (irow (outsN H) (cst (wqH H))) 3 (0, 0)) ∧ Below W.heap.size W w' :=
  (callsIn_wide.1 (Weights_in 24 (by omega) W.heap.size H hV f c W (RawAt.came h1 h2))).mono (by
    rintro e w' ⟨hb, ⟨_, ob, h3, rfl, h4⟩ | ⟨hd', _⟩⟩
    · exact ⟨ob, rfl, h4, hb⟩
    · exact absurd hd hd')
set_option maxHeartbeats 8000000 in
theorem weights_c (R : RH) (fv cv : Value) (w : World) (hrf : ReadsF w fv R.faces) (hrc : ReadsA w cv R.cards) :
    Calls Try.prog 3 #[.agg (handR R fv cv)] w fun e w' => e = .returned (.bool true) ∧ Below w.heap.size w w' := by
  have hx := heap_alloc_new w (.cells (handR R fv cv) 26)
  have hb : Below w.heap.size w (w.alloc (.cells (handR R fv cv) 26)) := (Below.refl _ _).alloc (Nat.le_refl _) _
  have HX := hid hx
  have HB := hid hb
  obtain ⟨pf, cf, hfe⟩ := hrf.form
  obtain ⟨pc, cc, hce⟩ := hrc.form
  have HLG := hid (fun W => large_c R pf pc R.faces.length cf R.cards.length cc W)
  rw [← hfe, ← hce] at HLG
  obtain ⟨g, hg⟩ : ∃ g, w.heap.size = g := ⟨_, rfl⟩
  rw [hg] at HX HB
  clear hx hb
  by_cases hbig : 30 < R.faces.length ∨ 30 < R.cards.length
  · have hbg : (decide (30 < R.faces.length) || decide (30 < R.cards.length)) = true := by simpa using hbig
    rw [hbg] at HLG
    clear hbig hbg hfe hce hrf hrc
    go_enter Try.func3, Try.ntmps3
    go_wp2_with (first
      | (refine wpList_value rfl (by intro c hc; cases hc) (.agg (handR R fv cv)) (exec_ldR rfl rfl HX.out) ?_)
      | (go_at_call 11; refine (HLG.out _).mono ?_; rintro e w1 ⟨rfl, hb1⟩; have HB1 := hid (HB.out.trans (hb1.mono (by simp; omega))); have HX1 := hid (heap_below hb1 HX.out (heap_lt HX.out)))
      | (go_at_call 12; refine (known_c _).mono ?_; rintro e wk ⟨rfl, hbk⟩))
    go_ret
    exact ⟨rfl, by rw [hg]; exact HB1.out.trans (hbk.mono (Nat.le_of_lt (heap_lt HX1.out)))⟩
  · have hsm : (decide (30 < R.faces.length) || decide (30 < R.cards.length)) = false := by simpa using hbig
    rw [hsm] at HLG
    have hlf : R.faces.length ≤ 30 := by omega
    have hlc : R.cards.length ≤ 30 := by omega
    have HOW := hid (fun W hW => own_r R fv cv w hrf hrc (by omega) (by omega) g hg W hW)
    have HHD := hid (fun W (hW : Below g w W) => rhand_c R fv cv (by omega) (by omega) W.heap.size W (RawAt.came (hrf.below (hg ▸ hW)) (hrc.below (hg ▸ hW))))
    by_cases hok : okR R = true
    · obtain ⟨H, rfl, hV⟩ : ∃ H, R = rawOf H ∧ Val H := ⟨toH R, (Val.of hok).2.symm, (Val.of hok).1⟩
      simp only [hok] at HHD
      have HRF := hid hrf
      have HRC := hid hrc
      have HVL := hid hV
      clear hbig hsm hfe hce hrf hrc hok hV
      go_enter Try.func3, Try.ntmps3
      go_upto_region 6 with (first
        | (refine wpList_value rfl (by intro c hc; cases hc) (.agg (handR (rawOf H) fv cv)) (exec_ldR rfl rfl HX.out) ?_)
        | (refine wpList_value rfl (by intro c hc; cases hc) (.agg (handR (rawOf H) fv cv)) (exec_ldR rfl rfl HX1.out) ?_)
        | (go_at_call 11; refine (HLG.out _).mono ?_; rintro e w1 ⟨rfl, hb1⟩; have HB1 := hid (HB.out.trans (hb1.mono (by simp; omega))); have HX1 := hid (heap_below hb1 HX.out (heap_lt HX.out)))
        | (go_at_call 13; refine (HHD.out _ HB1.out).mono ?_; rintro e w2 ⟨rfl, hb_w2⟩; have HB2 := hid (HB1.out.trans (hb_w2.mono (Nat.le_of_lt (heap_lt HX1.out)))); have HX2 := hid (heap_below hb_w2 HX1.out (heap_lt HX1.out))))
      go_wp2_with (refine wpList_value rfl (by intro c hc; cases hc) (.agg (handR (rawOf H) fv cv)) (exec_ldR rfl rfl HX2.out) ?_)
      go_at_call 16
      refine (all_c H HVL.out fv cv w2 (HRF.out.below (hg ▸ HB2.out)) (HRC.out.below (hg ▸ HB2.out))).mono ?_
      rintro e w5 ⟨rfl | ⟨va, La, rfl, hao, hl15⟩, hb5⟩
      · have HB5 := hid (HB2.out.trans (hb5.mono (Nat.le_of_lt (heap_lt HX2.out))))
        have HX5 := hid (heap_below hb5 HX2.out (heap_lt HX2.out))
        go_wp2_with (go_at_call 12; refine (known_c _).mono ?_; rintro e wk ⟨rfl, hbk⟩)
        go_ret
        exact ⟨rfl, by rw [hg]; exact HB5.out.trans (hbk.mono (Nat.le_of_lt (heap_lt HX5.out)))⟩
      · have HB5 := hid (HB2.out.trans (hb5.mono (Nat.le_of_lt (heap_lt HX2.out))))
        have HX5 := hid (heap_below hb5 HX2.out (heap_lt HX2.out))
        have HAO := hid (show AO w5 w2.heap.size va La (intLL (allC H)) from hao)
        have HLN := hid (show (allC H).length ≤ 1500 from hl15)
        clear hao hl15
        obtain ⟨D, hD⟩ : ∃ D, dnH H = D := ⟨_, rfl⟩
        have HDD := hid (show dnK H (beginS H) (dep (beginS H)) = D from hD)
        by_cases hd : D ≤ 1000000000000000
        · have hsd : satN D = D := satN_id D hd
          have HWT := hid (fun f c W (h1 : ReadsF W f (rawOf H).faces) (h2 : ReadsA W c (rawOf H).cards) => wts_ok H HVL.out (hD ▸ hd) f c W h1 h2)
          have HWQ := hid (show (fun o => rawW H (beginS H) o / gcdW (rawW H (beginS H)) (outsN H)) = wqH H from rfl)
          have HM := hid (outs_le H HVL.out.hand.ok)
          have hd1 : decide ((1000000000000000 : Int) < ((D : Nat) : Int)) = false := decide_eq_false (by omega)
          have hd2 : ¬ (1000000000000000 : Int) < ((D : Nat) : Int) := by omega
          obtain ⟨M, hM⟩ : ∃ M, outsN H = M := ⟨_, rfl⟩
          rw [hM] at HWT HWQ HM
          have HMM := hid hM
          have HSD := hid hsd
          clear hM hD hd hsd
          go_wp2_with (first
        | (refine wpList_value rfl (by intro c hc; cases hc) (.agg (handR (rawOf H) fv cv)) (exec_ldR rfl rfl HX5.out) ?_)
        | (refine wpList_value rfl (by intro c hc; cases hc) (.agg (handR (rawOf H) fv cv)) (exec_ldR rfl rfl HX7.out) ?_)
        | (refine wpList_valueG rfl (.agg (handR (rawOf H) fv cv)) (exec_ldR rfl rfl HX8.out) ?_)
        | (go_at_call 15; refine (HOW.out _ HB5.out).mono ?_; rintro e w6 ⟨f_w6, c_w6, rfl, hf_w6, hc_w6, hb_w6⟩; have HB6 := hid (HB5.out.trans (hb_w6.mono (Nat.le_of_lt (heap_lt HX5.out)))); have HX6 := hid (heap_below hb_w6 HX5.out (heap_lt HX5.out)))
        | (go_at_call 14; refine (HWT.out f_w6 c_w6 w6 hf_w6 hc_w6).mono ?_; rintro e w7 ⟨ob, rfl, hob, hb_w7⟩; have HB7 := hid (HB6.out.trans (hb_w7.mono (Nat.le_of_lt (heap_lt HX6.out)))); have HX7 := hid (heap_below hb_w7 HX6.out (heap_lt HX6.out)))
        | (go_at_call 17; refine (rcommon_c H HVL.out fv cv va La w2.heap.size w7 (HRF.out.below (hg ▸ HB7.out)) (HRC.out.below (hg ▸ HB7.out)) ((HAO.out.below hb_w6).below hb_w7) HLN.out).mono ?_; rintro e w8 ⟨rfl, hb_w8⟩; rw [HDD.out, HSD.out]; have HB8 := hid (HB7.out.trans (hb_w8.mono (Nat.le_of_lt (heap_lt HX7.out)))); have HX8 := hid (heap_below hb_w8 HX7.out (heap_lt HX7.out)))
        | (go_at_call 19; refine (rweights_c H HVL.out fv cv va La w2.heap.size w8 (HRF.out.below (hg ▸ HB8.out)) (HRC.out.below (hg ▸ HB8.out)) (((HAO.out.below hb_w6).below hb_w7).below hb_w8) HLN.out D HDD.out (by omega)).mono ?_; rintro e w9 ⟨⟨bb, rfl, hbr⟩, hb_w9⟩; rw [HMM.out] at hbr; rw [HMM.out]; rw [HWQ.out] at hbr; have HB9 := hid (HB8.out.trans (hb_w9.mono (Nat.le_of_lt (heap_lt HX8.out)))); have HX9 := hid (heap_below hb_w9 HX8.out (heap_lt HX8.out)))
        | (go_at_call 18; refine (sam_c _ _ _ _ w9 (row_reads (heap_below hb_w9 (heap_below hb_w8 hob (heap_lt hob)) (by have := heap_lt hob; have := hb_w8.size; omega))) (row_reads hbr) (by simp; have := HM.out; omega) (by simp; have := HM.out; omega)).mono ?_; rintro e w10 ⟨rfl, hb_w10⟩; rw [show decide (((List.range M).map (wqH H)).map (fun x => ((x : Nat) : Int)) = ((List.range M).map (wqH H)).map (fun x => ((x : Nat) : Int))) = true from decide_eq_true rfl]; have HB10 := hid (HB9.out.trans (hb_w10.mono (Nat.le_of_lt (heap_lt HX9.out)))); have HX10 := hid (heap_below hb_w10 HX9.out (heap_lt HX9.out)))
        | (go_at_call 12; refine (known_c _).mono ?_; rintro e wk ⟨rfl, hbk⟩))
          go_ret
          exact ⟨rfl, by rw [hg]; exact HB10.out.trans (hbk.mono (Nat.le_of_lt (heap_lt HX10.out)))⟩
        · obtain ⟨x, hx⟩ : ∃ x, satN D = x := ⟨_, rfl⟩
          have hx15 : 1000000000000000 < x := by rw [← hx]; exact Nat.lt_of_not_le fun h => hd ((satN_small D).1 h)
          have hd1 : decide ((1000000000000000 : Int) < ((x : Nat) : Int)) = true := decide_eq_true (by omega)
          have hd2 : (1000000000000000 : Int) < ((x : Nat) : Int) := by omega
          have hsd := hx
          have HWT := hid (fun f c W (h1 : ReadsF W f (rawOf H).faces) (h2 : ReadsA W c (rawOf H).cards) => wts_full H HVL.out (hD ▸ hd) f c W h1 h2)
          have HSD := hid hsd
          clear hD hd hsd hx
          go_wp2_with (first
        | (refine wpList_value rfl (by intro c hc; cases hc) (.agg (handR (rawOf H) fv cv)) (exec_ldR rfl rfl HX5.out) ?_)
        | (refine wpList_value rfl (by intro c hc; cases hc) (.agg (handR (rawOf H) fv cv)) (exec_ldR rfl rfl HX7.out) ?_)
        | (go_at_call 15; refine (HOW.out _ HB5.out).mono ?_; rintro e w6 ⟨f_w6, c_w6, rfl, hf_w6, hc_w6, hb_w6⟩; have HB6 := hid (HB5.out.trans (hb_w6.mono (Nat.le_of_lt (heap_lt HX5.out)))); have HX6 := hid (heap_below hb_w6 HX5.out (heap_lt HX5.out)))
        | (go_at_call 14; refine (HWT.out f_w6 c_w6 w6 hf_w6 hc_w6).mono ?_; rintro e w7 ⟨rfl, hb_w7⟩; have HB7 := hid (HB6.out.trans (hb_w7.mono (Nat.le_of_lt (heap_lt HX6.out)))); have HX7 := hid (heap_below hb_w7 HX6.out (heap_lt HX6.out)))
        | (go_at_call 17; refine (rcommon_c H HVL.out fv cv va La w2.heap.size w7 (HRF.out.below (hg ▸ HB7.out)) (HRC.out.below (hg ▸ HB7.out)) ((HAO.out.below hb_w6).below hb_w7) HLN.out).mono ?_; rintro e w8 ⟨rfl, hb_w8⟩; rw [HDD.out, HSD.out]; have HB8 := hid (HB7.out.trans (hb_w8.mono (Nat.le_of_lt (heap_lt HX7.out)))); have HX8 := hid (heap_below hb_w8 HX7.out (heap_lt HX7.out)))
        | (go_at_call 12; refine (known_c _).mono ?_; rintro e wk ⟨rfl, hbk⟩))
          go_ret
          exact ⟨rfl, by rw [hg]; exact HB8.out.trans (hbk.mono (Nat.le_of_lt (heap_lt HX8.out)))⟩
    · have hok' : okR R = false := by simpa using hok
      have HWT := hid (fun f c W (h1 : ReadsF W f R.faces) (h2 : ReadsA W c R.cards) => wts_no R hok' f c W h1 h2 (by omega) (by omega))
      simp only [hok'] at HHD
      clear hbig hsm hfe hce hrf hrc hok hok'
      go_enter Try.func3, Try.ntmps3
      go_wp2_with (first
        | (refine wpList_value rfl (by intro c hc; cases hc) (.agg (handR R fv cv)) (exec_ldR rfl rfl HX.out) ?_)
        | (refine wpList_value rfl (by intro c hc; cases hc) (.agg (handR R fv cv)) (exec_ldR rfl rfl HX1.out) ?_)
        | (refine wpList_value rfl (by intro c hc; cases hc) (.agg (handR R fv cv)) (exec_ldR rfl rfl HX2.out) ?_)
        | (go_at_call 11; refine (HLG.out _).mono ?_; rintro e w1 ⟨rfl, hb1⟩; have HB1 := hid (HB.out.trans (hb1.mono (by simp; omega))); have HX1 := hid (heap_below hb1 HX.out (heap_lt HX.out)))
        | (go_at_call 13; refine (HHD.out _ HB1.out).mono ?_; rintro e w2 ⟨rfl, hb_w2⟩; have HB2 := hid (HB1.out.trans (hb_w2.mono (Nat.le_of_lt (heap_lt HX1.out)))); have HX2 := hid (heap_below hb_w2 HX1.out (heap_lt HX1.out)))
        | (go_at_call 15; refine (HOW.out _ HB2.out).mono ?_; rintro e w6 ⟨f_w6, c_w6, rfl, hf_w6, hc_w6, hb_w6⟩; have HB6 := hid (HB2.out.trans (hb_w6.mono (Nat.le_of_lt (heap_lt HX2.out)))); have HX6 := hid (heap_below hb_w6 HX2.out (heap_lt HX2.out)))
        | (go_at_call 14; refine (HWT.out f_w6 c_w6 w6 hf_w6 hc_w6).mono ?_; rintro e w7 ⟨rfl, hb_w7⟩; have HB7 := hid (HB6.out.trans (hb_w7.mono (Nat.le_of_lt (heap_lt HX6.out)))); have HX7 := hid (heap_below hb_w7 HX6.out (heap_lt HX6.out)))
        | (go_at_call 12; refine (known_c _).mono ?_; rintro e wk ⟨rfl, hbk⟩))
      go_ret
      exact ⟨rfl, by rw [hg]; exact HB7.out.trans (hbk.mono (Nat.le_of_lt (heap_lt HX7.out)))⟩
end Go.Proofs.Ytmjnelkeiogdcaa
