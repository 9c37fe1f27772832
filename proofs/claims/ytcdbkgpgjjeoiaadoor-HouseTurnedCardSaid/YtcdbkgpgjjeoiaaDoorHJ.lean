/- Walks of package house: the verdict on two places. -/
import Derived.Test.YtcdbkgpgjjeoiaaDoorHA
import Derived.Test.YtcdbkgpgjjeoiaaDoorHW10
namespace Go.Proofs.YtcdbkgpgjjeoiaaDoor
open Go Go.RowKit
set_option maxRecDepth 100000
set_option linter.unusedSimpArgs false
set_option linter.unusedVariables false

theorem ties_c (h : Nat → Nat) (hh : ∀ i, i < 12 → h i < 16) (m a b : Nat) (ha : a < 12) (hb : b < 12) (hab : a ≠ b) (w : World) (LB : LaidB w) (hM : SkyM w m 12 (onF h 12)) :
    Calls Tryd.prog 55 #[.agg (sky h m), .int .i64 ((a : Nat) : Int), .int .i64 ((b : Nat) : Int)] w fun e w' => ∃ v, e = .returned v ∧ ReadsT w' v (tiesR h a b) ∧ Below w.heap.size w w' :=
  callsIn_wide.1 (ties_in h hh m a b 8 (Nat.le_refl _) ha hb hab w LB hM)
theorem readT_cell {w : World} {g : Nat} {ts : List Tie3} (h : ∀ j, j < ts.length * 3 → w.cell? ⟨g, j, none⟩ = (cells3 ts)[j]?) (i : Nat) (hi : i < ts.length) :
    w.cell? ⟨g, i * 3, none⟩ = some (.int .i64 ((ts[i].1 : Nat) : Int)) ∧ w.cell? ⟨g, i * 3 + 1, none⟩ = some (.int .i64 ((ts[i].2.1 + 1 : Nat) : Int)) ∧ w.cell? ⟨g, i * 3 + 2, none⟩ = some (.int .i64 ((ts[i].2.2 + 1 : Nat) : Int)) := by
  refine ⟨?_, ?_, ?_⟩
  · have := h (i * 3 + 0) (by omega)
    rw [cells3_get ts i 0 hi (by omega)] at this
    exact this
  · have := h (i * 3 + 1) (by omega)
    rw [cells3_get ts i 1 hi (by omega)] at this
    exact this
  · have := h (i * 3 + 2) (by omega)
    rw [cells3_get ts i 2 hi (by omega)] at this
    exact this
set_option maxHeartbeats 400000 in
theorem judge1_c (k x y : Nat) (w : World) : Calls Tryd.prog 80 #[.agg #[.int .i64 ((k : Nat) : Int), .int .i64 ((x : Nat) : Int), .int .i64 ((y : Nat) : Int)]] w fun e w' => e = .returned (.bool (k == 3 || k == 6)) ∧ Below w.heap.size w w' := by
  have hb : Below w.heap.size w (w.alloc (.cells #[.int .i64 ((k : Nat) : Int), .int .i64 ((x : Nat) : Int), .int .i64 ((y : Nat) : Int)] 56)) := (Below.refl _ _).alloc (Nat.le_refl _) _
  by_cases h3 : k = 3
  · subst h3
    go_enter Tryd.func80, Tryd.ntmps80
    go_wp2_with fail
    go_ret
    exact ⟨rfl, hb⟩
  · by_cases h6 : k = 6
    · subst h6
      go_enter Tryd.func80, Tryd.ntmps80
      go_wp2_with fail
      go_ret
      exact ⟨rfl, hb⟩
    · have e3 : (((k : Nat) : Int) == 3) = false := by simp; omega
      have e6 : (((k : Nat) : Int) == 6) = false := by simp; omega
      have e : (k == 3 || k == 6) = false := by simp; omega
      rw [e]
      clear h3 h6 e
      go_enter Tryd.func80, Tryd.ntmps80
      go_wp2_with fail
      go_ret
      exact ⟨rfl, hb⟩
set_option maxHeartbeats 1000000 in
theorem indexAsp (ts : List Tie3) (b c : Nat) (w : World) (hn : ts.length ≤ 1000000) (hb : b < w.heap.size) (hc : ∀ j, j < ts.length * 3 → w.cell? ⟨b, j, none⟩ = (cells3 ts)[j]?) :
    Calls Tryd.prog 97 #[.slice (some ⟨b, 0, none⟩) ts.length c, .func (.func 80) #[] #[]] w fun e w' => (∃ r : Int, e = .returned (.int .i64 r) ∧ decide (0 ≤ r) = ts.any hard) ∧ Below w.heap.size w w' := by
  have HC := hid (fun (w' : World) (hw : Below w.heap.size w w') (i : Nat) (hi : i < ts.length) => readT_cell (w := w') (g := b) (ts := ts) (fun j hj => (hw.cell (p := ⟨b, j, none⟩) hb).trans (hc j hj)) i hi)
  obtain ⟨n, hn'⟩ : ∃ n, ts.length = n := ⟨_, rfl⟩
  rw [hn'] at hn ⊢
  have HN := hid hn'
  obtain ⟨g, hg⟩ : ∃ g, w.heap.size = g := ⟨_, rfl⟩
  rw [hg] at HC ⊢
  clear hc hn'
  go_enter Tryd.func97, Tryd.ntmps97
  go_wp2_with fail
  go_loopw [8] (fun i wr => ∃ k : Nat, k ≤ n ∧ i = .int .i64 k ∧ Below g w wr ∧ Aside (∀ j (hj : j < ts.length), j < k → hard ts[j] = false)) (fun i _ => n - (intOf i).toNat)
  case atStart => exact ⟨0, Nat.zero_le _, rfl, Below.refl _ _, fun j _ h => absurd h (by omega)⟩
  case round =>
    obtain ⟨k, hk, rfl, hB, A⟩ := hrel
    by_cases hlt : k < n
    · have hlt' : ((k : Nat) : Int) < n := by omega
      have hp0 : (0 : Int) ≤ k := by omega
      have hkl : k < ts.length := by rw [HN.out]; exact hlt
      obtain ⟨c0, c1, c2⟩ := HC.out wr hB k hkl
      have HJ := hid (fun W => judge1_c ts[k].1 (ts[k].2.1 + 1) (ts[k].2.2 + 1) W)
      cases hhd : hard ts[k] with
      | false =>
        have hh' : (ts[k].1 == 3 || ts[k].1 == 6) = false := hhd
        rw [hh'] at HJ
        have A2 := hid (show ∀ j (hj : j < ts.length), j < k + 1 → hard ts[j] = false from fun j hj h => by
          by_cases e : j = k
          · subst e; exact hhd
          · exact A.out j hj (by omega))
        clear hhd hh'
        generalize ts[k].1 = x0 at *
        generalize ts[k].2.1 + 1 = x1 at *
        generalize ts[k].2.2 + 1 = x2 at *
        go_wp2_with (go_at_call 80; refine (HJ.out _).mono ?_; rintro e w' ⟨rfl, hb'⟩)
        go_roundw
        case rel => exact ⟨k + 1, by omega, by go_num, hB.trans (hb'.mono (by rw [← hg]; exact hB.size)), A2.out⟩
        case measure => simp [intOf]; omega
      | true =>
        have hh' : (ts[k].1 == 3 || ts[k].1 == 6) = true := hhd
        rw [hh'] at HJ
        have HF := hid (show ts.any hard = true from List.any_eq_true.2 ⟨ts[k], List.getElem_mem _, hhd⟩)
        clear hhd hh'
        generalize ts[k].1 = x0 at *
        generalize ts[k].2.1 + 1 = x1 at *
        generalize ts[k].2.2 + 1 = x2 at *
        go_wp2_with (go_at_call 80; refine (HJ.out _).mono ?_; rintro e w' ⟨rfl, hb'⟩)
        go_ret
        exact ⟨⟨_, rfl, by rw [HF.out]; simp⟩, hB.trans (hb'.mono (by rw [← hg]; exact hB.size))⟩
    · have hge : ¬ ((k : Nat) : Int) < n := by omega
      obtain rfl : k = n := by omega
      have HF := hid (show ts.any hard = false from by
        rw [Bool.eq_false_iff]
        intro h
        obtain ⟨t, ht, h2⟩ := List.any_eq_true.1 h
        obtain ⟨j, hj, rfl⟩ := List.getElem_of_mem ht
        rw [A.out j hj (by rw [← HN.out]; exact hj)] at h2
        cases h2)
      go_wp2_with fail
      go_ret
      exact ⟨⟨-1, rfl, by rw [HF.out]; rfl⟩, hB⟩
theorem containsAsp (ts : List Tie3) (b c : Nat) (w : World) (hn : ts.length ≤ 1000000) (hb : b < w.heap.size) (hc : ∀ j, j < ts.length * 3 → w.cell? ⟨b, j, none⟩ = (cells3 ts)[j]?) :
    Calls Tryd.prog 81 #[.slice (some ⟨b, 0, none⟩) ts.length c, .func (.func 80) #[] #[]] w fun e w' => e = .returned (.bool (ts.any hard)) ∧ Below w.heap.size w w' := by
  have H := hid (indexAsp ts b c w hn hb hc)
  clear hc
  generalize ts.length = n at *
  obtain ⟨z, hz⟩ : ∃ z, ts.any hard = z := ⟨_, rfl⟩
  rw [hz] at H ⊢
  clear hz
  go_enter Tryd.func81, Tryd.ntmps81
  go_wp2_with (go_at_call 97; refine H.out.mono ?_; rintro e w' ⟨⟨r, rfl, hr⟩, hb'⟩)
  go_ret
  exact ⟨rfl, hb'⟩
theorem readT_cons {W : World} {v : Value} {t : Tie3} {l : List Tie3} (h : ReadsT W v (t :: l)) : ∃ G c, v = .slice (some ⟨G, 0, none⟩) (l.length + 1) c ∧ G < W.heap.size ∧ W.cell? ⟨G, 0, none⟩ = some (.int .i64 ((t.1 : Nat) : Int)) := by
  rcases h with ⟨h, _⟩ | ⟨G, c, h1, h2, h3⟩
  · cases h
  · exact ⟨G, c, h1, h2, by have := (readT_cell h3 0 (by simp)).1; simpa using this⟩
theorem readT_nil {W : World} {v : Value} (h : ReadsT W v []) : ∃ p c, v = .slice p 0 c := by
  rcases h with ⟨_, h⟩ | ⟨G, c, h1, h2, h3⟩
  · exact ⟨_, _, h⟩
  · exact ⟨_, _, h1⟩
theorem readT_some {W : World} {v : Value} {t : Tie3} {l : List Tie3} (h : ReadsT W v (t :: l)) : ∃ G c, v = .slice (some ⟨G, 0, none⟩) (t :: l).length c ∧ G < W.heap.size ∧ ∀ j, j < (t :: l).length * 3 → W.cell? ⟨G, j, none⟩ = (cells3 (t :: l))[j]? := by
  rcases h with ⟨h, _⟩ | ⟨G, c, h1, h2, h3⟩
  · cases h
  · exact ⟨G, c, h1, h2, h3⟩
theorem judge_cons {h : Nat → Nat} {a b : Nat} {t : Tie3} {l : List Tie3} (e : tiesR h a b = t :: l) : judgeN h a b = if t.1 ≤ 2 then 1 else 2 := by unfold judgeN; rw [e]
theorem judge_nil {h : Nat → Nat} {a b : Nat} (e : tiesR h a b = []) : judgeN h a b = if (aspR h a b).isEmpty || (aspR h a b).any hard then 4 else 3 := by unfold judgeN; rw [e]
set_option maxHeartbeats 4000000 in
theorem judge_c (h : Nat → Nat) (hh : ∀ i, i < 12 → h i < 16) (m a b : Nat) (ha : a < 12) (hb : b < 12) (hab : a ≠ b) (w : World) (LB : LaidB w) (hM : SkyM w m 12 (onF h 12)) :
    Calls Tryd.prog 57 #[.agg (sky h m), .int .i64 ((a : Nat) : Int), .int .i64 ((b : Nat) : Int)] w fun e w' => e = .returned (.int .i64 ((judgeN h a b : Nat) : Int)) ∧ Below w.heap.size w w' := by
  have HT := hid (fun (W : World) (hW : Below w.heap.size w W) => ties_c h hh m a b ha hb hab W (LB.below hW) (hM.below hW hM.lt))
  have HA := hid (fun (W : World) (hW : Below w.heap.size w W) => asps_c h hh m a b ha hb W (LB.below hW) (hM.below hW hM.lt))
  have h0 := heap_alloc_new w (.cells (sky h m) 109)
  have hb0 : Below w.heap.size w (w.alloc (.cells (sky h m) 109)) := (Below.refl _ _).alloc (Nat.le_refl _) _
  have hJC := hid (fun t l => judge_cons (h := h) (a := a) (b := b) (t := t) (l := l))
  have hJN := hid (judge_nil (h := h) (a := a) (b := b))
  obtain ⟨z, hz⟩ : ∃ z, judgeN h a b = z := ⟨_, rfl⟩
  rw [hz] at hJN ⊢
  have HJC := hid (fun t l e => hz.symm.trans (hJC.out t l e))
  clear hh LB hM hJC hz
  have HL := hid (show (tiesR h a b).length ≤ 576 from by
    have h1 : allT.length = 576 := by decide +kernel
    rw [← h1]
    exact List.length_filter_le _ _)
  have HL2 := hid (show (aspR h a b).length ≤ 12 from by
    unfold aspR
    rw [List.length_map]
    exact len_bits _)
  generalize tiesR h a b = ts at *
  generalize aspR h a b = al at *
  obtain ⟨g, hg⟩ : ∃ g, w.heap.size = g := ⟨_, rfl⟩
  cases ts with
  | cons t l =>
    have hlen : ((l.length + 1 : Nat) : Int) > 0 := by omega
    have HLc := hid (show l.length + 1 ≤ 576 from HL.out)
    have HV := hid (fun (W : World) (v : Value) (hR : ReadsT W v (t :: l)) => readT_cons hR)
    have hz := HJC.out t l rfl
    have HZ := hid hz
    generalize l.length + 1 = n at *
    have hn0 : (0 : Int) < n := by omega
    have hn1 : (n : Int) ≤ 576 := by have := HLc.out; omega
    clear HA HJC hJN HL HL2 hz hlen
    obtain ⟨k, hk⟩ : ∃ k, t.1 = k := ⟨_, rfl⟩
    rw [hk] at HZ HV
    clear hk
    have hlt0 := heap_lt h0
    have H0 := hid h0
    clear h0
    go_enter Tryd.func57, Tryd.ntmps57
    go_wp2_with fail
    generalize w.alloc (.cells (sky h m) 109) = w1 at *
    rw [hg] at HT H0 hb0 hlt0
    have h0 := H0.out
    clear H0
    by_cases h2 : k ≤ 2
    all_goals
      first | (have d2 : decide (((k : Nat) : Int) ≤ 2) = true := by simp; omega) | (have d2 : decide (((k : Nat) : Int) ≤ 2) = false := by simp; omega)
      first | rw [if_pos h2] at HZ | rw [if_neg h2] at HZ
      clear h2
      go_wp2_with (first
        | (refine ldsky _ rfl rfl _ rfl _ _ _ h0 ?_)
        | (go_at_call 55; refine (HT.out _ hb0).mono ?_; rintro e w2 ⟨v, rfl, hR, hb2⟩; obtain ⟨G, c, rfl, hG, hcG⟩ := HV.out _ _ hR; have hB2 := hb0.trans (hb2.mono (Nat.le_of_lt hlt0)); clear hR))
      go_ret
      exact ⟨by rw [HZ.out]; rfl, hg ▸ hB2⟩
  | nil =>
    have HV := hid (fun (W : World) (v : Value) (hR : ReadsT W v []) => readT_nil hR)
    have hz := hJN.out rfl
    clear HJC hJN HL
    cases al with
    | nil =>
      have HZ := hid (show z = 4 from hz)
      clear hz
      have hlt0 := heap_lt h0
      have H0 := hid h0
      clear h0
      go_enter Tryd.func57, Tryd.ntmps57
      go_wp2_with fail
      generalize w.alloc (.cells (sky h m) 109) = w1 at *
      rw [hg] at HT HA H0 hb0 hlt0
      have h0 := H0.out
      clear H0
      go_wp2_with (first
        | (refine ldsky _ rfl rfl _ rfl _ _ _ h0 ?_)
        | (go_at_call 55; refine (HT.out _ hb0).mono ?_; rintro e w2 ⟨v, rfl, hR, hb2⟩; obtain ⟨p, c, rfl⟩ := HV.out _ _ hR; have h0 := heap_below hb2 h0 hlt0; have hB2 := hb0.trans (hb2.mono (Nat.le_of_lt hlt0)); clear hR)
        | (go_at_call 56; refine (HA.out _ hB2).mono ?_; rintro e w3 ⟨v3, rfl, hR3, hb3⟩; obtain ⟨p3, c3, rfl⟩ := HV.out _ _ hR3; have hB3 := hB2.trans (hb3.mono (by rw [← hg]; exact hB2.size)); clear hR3))
      go_ret
      exact ⟨by rw [HZ.out]; rfl, hg ▸ hB3⟩
    | cons t l =>
      have HZ := hid (show z = if (t :: l).any hard then 4 else 3 from hz)
      have HV3 := hid (fun (W : World) (v : Value) (hR : ReadsT W v (t :: l)) => readT_some hR)
      have hpos : 0 < (t :: l).length := by simp
      have HC := hid (fun b c w hb hc => containsAsp (t :: l) b c w (by have := HL2.out; omega) hb hc)
      have hn12 := HL2.out
      clear hz HL2
      generalize (t :: l) = L at *
      obtain ⟨n, hn⟩ : ∃ n, L.length = n := ⟨_, rfl⟩
      rw [hn] at HC HV3 hn12 hpos
      clear hn
      have hlt0 := heap_lt h0
      have H0 := hid h0
      clear h0
      have hne : (((n : Nat) : Int) == 0) = false := by simp; omega
      cases hy : L.any hard
      all_goals
        rw [hy] at HC HZ
        go_enter Tryd.func57, Tryd.ntmps57
        go_wp2_with fail
        generalize w.alloc (.cells (sky h m) 109) = w1 at *
        rw [hg] at HT HA H0 hb0 hlt0
        have h0 := H0.out
        clear H0
        go_wp2_with (first
          | (refine ldsky _ rfl rfl _ rfl _ _ _ h0 ?_)
          | (go_at_call 55; refine (HT.out _ hb0).mono ?_; rintro e w2 ⟨v, rfl, hR, hb2⟩; obtain ⟨p, c, rfl⟩ := HV.out _ _ hR; have h0 := heap_below hb2 h0 hlt0; have hB2 := hb0.trans (hb2.mono (Nat.le_of_lt hlt0)); clear hR)
          | (go_at_call 56; refine (HA.out _ hB2).mono ?_; rintro e w3 ⟨v3, rfl, hR3, hb3⟩; obtain ⟨G, c3, rfl, hG, hcG⟩ := HV3.out _ _ hR3; have HCG := hid hcG; have hB3 := hB2.trans (hb3.mono (by rw [← hg]; exact hB2.size)); clear hR3 hcG)
          | (go_at_call 81; refine (HC.out _ _ _ hG HCG.out).mono ?_; rintro e w4 ⟨rfl, hb4⟩; have hB4 := hB3.trans (hb4.mono (by rw [← hg]; exact hB3.size))))
        go_ret
        exact ⟨by rw [HZ.out]; rfl, hg ▸ hB4⟩
end Go.Proofs.YtcdbkgpgjjeoiaaDoor
