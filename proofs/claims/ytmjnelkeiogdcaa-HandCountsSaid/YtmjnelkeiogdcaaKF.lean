/- Walks of the reference: whether a hand is valid. -/
import Derived.Test.YtmjnelkeiogdcaaKE
set_option linter.unusedSimpArgs false
set_option linter.unusedVariables false
namespace Go.Proofs.Ytmjnelkeiogdcaa
open Go Go.RowKit Go.Shelf
set_option maxRecDepth 100000

theorem rin_b (n a b : Int) (w : World) : Calls Try.prog 38 #[.int .i64 n, .int .i64 a, .int .i64 b] w fun e w' => e = .returned (.bool (inB n a b)) ∧ w = w' := rin_c n a b w
set_option maxHeartbeats 2000000 in
theorem rcards_c (L : List Int) (v : Value) (least : Int) (N : Nat) (w : World) (hn : L.length ≤ 1000000) (hC : CrsAt w N v L) :
    Calls Try.prog 40 #[v, .int .i64 least] w fun e w' => e = .returned (.bool (inB L.length least 20 && !L.any badC)) ∧ w = w' := by
  obtain ⟨p, kp, hv, hcs⟩ := hC.at'
  subst hv
  obtain ⟨bb, hbb⟩ : ∃ bb, (inB L.length least 20 && !L.any badC) = bb := ⟨_, rfl⟩
  rw [hbb]
  have HBB := hid hbb
  have HCS := hid hcs
  obtain ⟨n, hnL⟩ : ∃ n, L.length = n := ⟨_, rfl⟩
  have HN := hid hnL
  have HIN := hid (fun W => rin_b ((n : Nat) : Int) least 20 W)
  rw [hnL] at hn ⊢
  clear hbb hcs hC hnL
  go_enter Try.func40, Try.ntmps40
  go_wp2_with fail
  go_loopw [5] (fun ix wr => ∃ i : Nat, i ≤ n ∧ ix = .int .i64 ((i : Nat) : Int) ∧ (∀ j (h : j < L.length), j < i → badC L[j] = false) ∧ w = wr) (fun ix _ => n - (intOf ix).toNat)
  case atStart => exact ⟨0, by omega, rfl, fun j _ h => by omega, rfl⟩
  case round =>
    obtain ⟨i, hi, rfl, hok, rfl⟩ := hrel
    have HOK := hid hok
    clear hok
    rcases Nat.lt_or_ge i n with hlt | hge
    · have hin : decide (((i : Nat) : Int) < ((n : Nat) : Int)) = true := decide_eq_true (by omega)
      have hin' : ((i : Nat) : Int) < ((n : Nat) : Int) := by omega
      have hi0 : (0 : Int) ≤ ((i : Nat) : Int) := by omega
      have hiL : i < L.length := by rw [HN.out]; exact hlt
      obtain ⟨b, o, rfl, hbN, c1⟩ := HCS.out i hiL
      have hiw : IntKind.i64.wrap (((i : Nat) : Int) + 1) = ((i + 1 : Nat) : Int) := (IntWalk.i64_in _ (by omega)).trans (by omega)
      obtain ⟨x, hx⟩ : ∃ x, L[i] = x := ⟨_, rfl⟩
      rw [hx] at c1
      have HX := hid hx
      have HIX := hid (fun W => rin_b x 0 7 W)
      obtain ⟨t, ht⟩ : ∃ t, inB x 0 7 = t := ⟨_, rfl⟩
      rw [ht] at HIX
      have HT := hid ht
      clear hx ht
      cases t with
      | true =>
        go_wp2_with (go_at_call 38; refine (HIX.out _).mono ?_; rintro e w4 ⟨rfl, rfl⟩)
        go_roundw
        case rel =>
          refine ⟨i + 1, by omega, rfl, fun j h hj => ?_, by trivial⟩
          by_cases e : j = i
          · subst e
            show (!inB L[j] 0 7) = false
            rw [HX.out, HT.out]
            rfl
          · exact HOK.out j h (by omega)
        case measure => simp only [intOf, Int.toNat_natCast]; omega
      | false =>
        go_wp2_with (go_at_call 38; refine (HIX.out _).mono ?_; rintro e w4 ⟨rfl, rfl⟩)
        go_ret
        have hany : L.any badC = true := List.any_eq_true.2 ⟨L[i], List.getElem_mem hiL, by show (!inB L[i] 0 7) = true; rw [HX.out, HT.out]; rfl⟩
        exact ⟨by rw [← HBB.out, hany, Bool.not_true, Bool.and_false]; rfl, rfl⟩
    · obtain rfl : i = n := by omega
      have hin : decide (((i : Nat) : Int) < ((i : Nat) : Int)) = false := decide_eq_false (by omega)
      have hany : L.any badC = false := List.any_eq_false.2 fun x hx => by
        obtain ⟨j, hj, rfl⟩ := List.getElem_of_mem hx
        rw [HOK.out j hj (by rw [← HN.out]; exact hj)]
        simp
      have hbb2 : bb = inB ((i : Nat) : Int) least 20 := by rw [← HBB.out, hany, HN.out, Bool.not_false, Bool.and_true]
      rw [← hbb2] at HIN
      clear hany hbb2
      go_wp2_with (go_at_call 38; refine (HIN.out _).mono ?_; rintro e w4 ⟨rfl, rfl⟩)
      go_ret
      exact ⟨rfl, rfl⟩
/-- Whether stalks last, by numbers. -/
theorem reach_can (H : HV) (s : Nat) (ch : Nat) : ∀ k t, Reach H (.divided ch s) k t ↔ k ≤ ch ∧ ∃ n, t = .divided (ch - k) n ∧ canN H.group s k n
  | 0, t => by
    constructor
    · intro h
      have h' : t = .divided ch s := h
      exact ⟨Nat.zero_le _, s, h', rfl⟩
    · rintro ⟨_, n, h1, h2⟩
      have h2' : n = s := h2
      rw [h2'] at h1
      exact h1
  | k + 1, t => by
    constructor
    · rintro ⟨v, hv, x, hx⟩
      obtain ⟨h1, n, rfl, h3⟩ := (reach_can H s ch k v).1 hv
      simp only [brs] at hx
      split at hx
      · simp at hx
      · obtain ⟨i, hi, he⟩ := List.mem_map.1 hx
        rw [List.mem_range] at hi
        injection he with _ he
        exact ⟨by omega, leftN H.group n (i + 1), by rw [← he]; congr 1, n, i, h3, by omega, rfl⟩
    · rintro ⟨h1, m, rfl, n, c, h3, h4, h5⟩
      refine ⟨.divided (ch - k) n, (reach_can H s ch k _).2 ⟨by omega, n, rfl, h3⟩, 1, ?_⟩
      simp only [brs]
      rw [if_neg (by omega)]
      refine List.mem_map.2 ⟨c, List.mem_range.2 (by omega), ?_⟩
      rw [h5]
      congr 2
theorem last_can (R : RH) : LastR R ↔ ∀ j, j < R.changes.toNat → ∀ n, canN R.group.toNat R.count.toNat j n → 3 ≤ n := by
  constructor
  · intro h j hj n hn
    have h1 := h j _ ((reach_can (toH R) (toH R).count (toH R).changes j (.divided (R.changes.toNat - j) n)).2 ⟨Nat.le_of_lt hj, n, rfl, hn⟩)
    simp only [okD, Bool.or_eq_true, decide_eq_true_eq] at h1
    omega
  · intro h k t hr
    obtain ⟨h1, n, rfl, h3⟩ := (reach_can (toH R) (toH R).count (toH R).changes k t).1 hr
    simp only [okD, Bool.or_eq_true, decide_eq_true_eq]
    rcases Nat.lt_or_ge k (toH R).changes with hk | hk
    · exact .inr (h k hk n h3)
    · exact .inl (by omega)
set_option maxHeartbeats 2000000 in
theorem rhand0_c (R : RH) (h1 : R.kind ≠ 1) (h2 : R.kind ≠ 2) (h3 : R.kind ≠ 3) (h4 : R.kind ≠ 4) (h5 : R.kind ≠ 5) (fv cv : Value) (w : World) :
    Calls Try.prog 13 #[.agg (handR R fv cv)] w fun e w' => e = .returned (.bool (okR R)) ∧ Below w.heap.size w w' := by
  have hb : Below w.heap.size w (w.alloc (.cells (handR R fv cv) 26)) := (Below.refl _ _).alloc (Nat.le_refl _) _
  have HB := hid hb
  have ⟨k0, k1, k2, k3, k4, k5, k6, k7⟩ := cells8 (heap_alloc_new w (.cells (handR R fv cv) 26))
  have hok : okR R = false := by unfold okR; rw [if_neg h1, if_neg h2, if_neg h3, if_neg h4, if_neg h5]
  rw [hok]
  have q1 : (R.kind == 1) = false := by simp [h1]
  have q2 : (R.kind == 2) = false := by simp [h2]
  have q3 : (R.kind == 3) = false := by simp [h3]
  have q4 : (R.kind == 4) = false := by simp [h4]
  have q5 : (R.kind == 5) = false := by simp [h5]
  clear hb hok h1 h2 h3 h4 h5
  go_enter Try.func13, Try.ntmps13
  go_wp2_with fail
  go_ret
  exact ⟨rfl, HB.out⟩
set_option maxHeartbeats 8000000 in
theorem rhand2_c (R : RH) (hk : R.kind = 2) (fv cv : Value) (hf : R.faces.length ≤ 1000) (hc : R.cards.length ≤ 1000) (N : Nat) (w : World) (hR : RawAt w N R fv cv) :
    Calls Try.prog 13 #[.agg (handR R fv cv)] w fun e w' => e = .returned (.bool (okR R)) ∧ Below w.heap.size w w' := by
  have hx := heap_alloc_new w (.cells (handR R fv cv) 26)
  have hb : Below w.heap.size w (w.alloc (.cells (handR R fv cv) 26)) := (Below.refl _ _).alloc (Nat.le_refl _) _
  have HX := hid hx
  have HB := hid hb
  have HR := hid (hR.below (hb.mono hR.le))
  obtain ⟨bb, hbb⟩ : ∃ bb, okR R = bb := ⟨_, rfl⟩
  rw [hbb]
  unfold okR at hbb
  obtain ⟨pf, cf, hfe, -⟩ := hR.faces
  obtain ⟨pc, cc, hce, hcs⟩ := hR.cards
  have HCC := hid (show CrsAt (w.alloc (.cells (handR R fv cv) 26)) N cv R.cards from ⟨HR.out.le, HR.out.cards⟩)
  obtain ⟨F, hF⟩ : ∃ F, R.faces.length = F := ⟨_, rfl⟩
  obtain ⟨C, hC⟩ : ∃ C, R.cards.length = C := ⟨_, rfl⟩
  have HF := hid hF
  have HCL := hid hC
  rw [hF] at hfe hbb hf
  rw [hC] at hce hbb hc
  have HRC := hid (fun (l : Int) W (h : CrsAt W N cv R.cards) => rcards_c R.cards cv l N W (by rw [hC]; omega) h)
  rw [hC] at HRC
  obtain ⟨g, hg⟩ : ∃ g, w.heap.size = g := ⟨_, rfl⟩
  rw [hg] at HX HB
  rw [hg]
  have hNg : N ≤ g := hg ▸ hR.le
  clear hx hb hR hcs hF hC
  have q1 : (R.kind == 1) = false := by simp [hk]
  have q2 : (R.kind == 2) = true := by simp [hk]
  rw [if_neg (by omega), if_pos hk] at hbb
  have HBB := hid hbb
  clear hbb
  subst hfe
  subst hce
  have ⟨k0, k1, k2, k3, k4, k5, k6, k7⟩ := cells8 HX.out
  by_cases h_lo1 : (1 : Int) ≤ R.low
  · have h_lo1b : decide ((1 : Int) ≤ R.low) = true := decide_eq_true h_lo1
    have H_h_lo1 := hid h_lo1
    clear h_lo1
    by_cases h_loh : R.low ≤ R.high
    · have h_lohb : decide (R.low ≤ R.high) = true := decide_eq_true h_loh
      have H_h_loh := hid h_loh
      clear h_loh
      by_cases h_hi : R.high ≤ (1000 : Int)
      · have h_hib : decide (R.high ≤ (1000 : Int)) = true := decide_eq_true h_hi
        have H_h_hi := hid h_hi
        clear h_hi
        by_cases h_count : R.count = 0
        · have h_countb : (R.count == 0) = true := by simp [h_count]
          have h_countn : (R.count != 0) = false := by simp [h_count]
          have H_h_count := hid h_count
          clear h_count
          by_cases h_F : F = 0
          · have h_Fb : (((F : Nat) : Int) == 0) = true := by simp [h_F]
            have h_Fn : (((F : Nat) : Int) != 0) = false := by simp [h_F]
            have H_h_F := hid h_F
            clear h_F
            by_cases h_group : R.group = 0
            · have h_groupb : (R.group == 0) = true := by simp [h_group]
              have h_groupn : (R.group != 0) = false := by simp [h_group]
              have H_h_group := hid h_group
              clear h_group
              by_cases h_changes : R.changes = 0
              · have h_changesb : (R.changes == 0) = true := by simp [h_changes]
                have h_changesn : (R.changes != 0) = false := by simp [h_changes]
                have H_h_changes := hid h_changes
                clear h_changes
                by_cases h_C : C = 0
                · have h_Cb : (((C : Nat) : Int) == 0) = true := by simp [h_C]
                  have h_Cn : (((C : Nat) : Int) != 0) = false := by simp [h_C]
                  have H_h_C := hid h_C
                  clear h_C
                  go_enter Try.func13, Try.ntmps13
                  go_wp2_with fail
                  go_ret
                  refine ⟨?_, HB.out⟩
                  · rw [← HBB.out]
                    have x0 := H_h_lo1.out
                    have x1 := H_h_loh.out
                    have x2 := H_h_hi.out
                    have x3 := H_h_count.out
                    have x4 := H_h_F.out
                    have x5 := H_h_group.out
                    have x6 := H_h_changes.out
                    have x7 := H_h_C.out
                    simp [inB, bareB] <;> (try intros) <;> omega
                · have h_Cb : (((C : Nat) : Int) == 0) = false := by simp [h_C]
                  have h_Cn : (((C : Nat) : Int) != 0) = true := by simp [h_C]
                  have H_h_C := hid h_C
                  clear h_C
                  go_enter Try.func13, Try.ntmps13
                  go_wp2_with fail
                  go_ret
                  refine ⟨?_, HB.out⟩
                  · rw [← HBB.out]
                    have x0 := H_h_lo1.out
                    have x1 := H_h_loh.out
                    have x2 := H_h_hi.out
                    have x3 := H_h_count.out
                    have x4 := H_h_F.out
                    have x5 := H_h_group.out
                    have x6 := H_h_changes.out
                    have x7 := H_h_C.out
                    simp [inB, bareB] <;> (try intros) <;> omega
              · have h_changesb : (R.changes == 0) = false := by simp [h_changes]
                have h_changesn : (R.changes != 0) = true := by simp [h_changes]
                have H_h_changes := hid h_changes
                clear h_changes
                go_enter Try.func13, Try.ntmps13
                go_wp2_with fail
                go_ret
                refine ⟨?_, HB.out⟩
                · rw [← HBB.out]
                  have x0 := H_h_lo1.out
                  have x1 := H_h_loh.out
                  have x2 := H_h_hi.out
                  have x3 := H_h_count.out
                  have x4 := H_h_F.out
                  have x5 := H_h_group.out
                  have x6 := H_h_changes.out
                  simp [inB, bareB] <;> (try intros) <;> omega
            · have h_groupb : (R.group == 0) = false := by simp [h_group]
              have h_groupn : (R.group != 0) = true := by simp [h_group]
              have H_h_group := hid h_group
              clear h_group
              go_enter Try.func13, Try.ntmps13
              go_wp2_with fail
              go_ret
              refine ⟨?_, HB.out⟩
              · rw [← HBB.out]
                have x0 := H_h_lo1.out
                have x1 := H_h_loh.out
                have x2 := H_h_hi.out
                have x3 := H_h_count.out
                have x4 := H_h_F.out
                have x5 := H_h_group.out
                simp [inB, bareB] <;> (try intros) <;> omega
          · have h_Fb : (((F : Nat) : Int) == 0) = false := by simp [h_F]
            have h_Fn : (((F : Nat) : Int) != 0) = true := by simp [h_F]
            have H_h_F := hid h_F
            clear h_F
            go_enter Try.func13, Try.ntmps13
            go_wp2_with fail
            go_ret
            refine ⟨?_, HB.out⟩
            · rw [← HBB.out]
              have x0 := H_h_lo1.out
              have x1 := H_h_loh.out
              have x2 := H_h_hi.out
              have x3 := H_h_count.out
              have x4 := H_h_F.out
              simp [inB, bareB] <;> (try intros) <;> omega
        · have h_countb : (R.count == 0) = false := by simp [h_count]
          have h_countn : (R.count != 0) = true := by simp [h_count]
          have H_h_count := hid h_count
          clear h_count
          go_enter Try.func13, Try.ntmps13
          go_wp2_with fail
          go_ret
          refine ⟨?_, HB.out⟩
          · rw [← HBB.out]
            have x0 := H_h_lo1.out
            have x1 := H_h_loh.out
            have x2 := H_h_hi.out
            have x3 := H_h_count.out
            simp [inB, bareB] <;> (try intros) <;> omega
      · have h_hib : decide (R.high ≤ (1000 : Int)) = false := decide_eq_false h_hi
        have H_h_hi := hid h_hi
        clear h_hi
        go_enter Try.func13, Try.ntmps13
        go_wp2_with fail
        go_ret
        refine ⟨?_, HB.out⟩
        · rw [← HBB.out]
          have x0 := H_h_lo1.out
          have x1 := H_h_loh.out
          have x2 := H_h_hi.out
          simp [inB, bareB] <;> (try intros) <;> omega
    · have h_lohb : decide (R.low ≤ R.high) = false := decide_eq_false h_loh
      have H_h_loh := hid h_loh
      clear h_loh
      go_enter Try.func13, Try.ntmps13
      go_wp2_with fail
      go_ret
      refine ⟨?_, HB.out⟩
      · rw [← HBB.out]
        have x0 := H_h_lo1.out
        have x1 := H_h_loh.out
        simp [inB, bareB] <;> (try intros) <;> omega
  · have h_lo1b : decide ((1 : Int) ≤ R.low) = false := decide_eq_false h_lo1
    have H_h_lo1 := hid h_lo1
    clear h_lo1
    go_enter Try.func13, Try.ntmps13
    go_wp2_with fail
    go_ret
    refine ⟨?_, HB.out⟩
    · rw [← HBB.out]
      have x0 := H_h_lo1.out
      simp [inB, bareB] <;> (try intros) <;> omega
set_option maxHeartbeats 8000000 in
theorem rhand4_c (R : RH) (hk : R.kind = 4) (fv cv : Value) (hf : R.faces.length ≤ 1000) (hc : R.cards.length ≤ 1000) (N : Nat) (w : World) (hR : RawAt w N R fv cv) :
    Calls Try.prog 13 #[.agg (handR R fv cv)] w fun e w' => e = .returned (.bool (okR R)) ∧ Below w.heap.size w w' := by
  have hx := heap_alloc_new w (.cells (handR R fv cv) 26)
  have hb : Below w.heap.size w (w.alloc (.cells (handR R fv cv) 26)) := (Below.refl _ _).alloc (Nat.le_refl _) _
  have HX := hid hx
  have HB := hid hb
  have HR := hid (hR.below (hb.mono hR.le))
  obtain ⟨bb, hbb⟩ : ∃ bb, okR R = bb := ⟨_, rfl⟩
  rw [hbb]
  unfold okR at hbb
  obtain ⟨pf, cf, hfe, -⟩ := hR.faces
  obtain ⟨pc, cc, hce, hcs⟩ := hR.cards
  have HCC := hid (show CrsAt (w.alloc (.cells (handR R fv cv) 26)) N cv R.cards from ⟨HR.out.le, HR.out.cards⟩)
  obtain ⟨F, hF⟩ : ∃ F, R.faces.length = F := ⟨_, rfl⟩
  obtain ⟨C, hC⟩ : ∃ C, R.cards.length = C := ⟨_, rfl⟩
  have HF := hid hF
  have HCL := hid hC
  rw [hF] at hfe hbb hf
  rw [hC] at hce hbb hc
  have HRC := hid (fun (l : Int) W (h : CrsAt W N cv R.cards) => rcards_c R.cards cv l N W (by rw [hC]; omega) h)
  rw [hC] at HRC
  obtain ⟨g, hg⟩ : ∃ g, w.heap.size = g := ⟨_, rfl⟩
  rw [hg] at HX HB
  rw [hg]
  have hNg : N ≤ g := hg ▸ hR.le
  clear hx hb hR hcs hF hC
  have q1 : (R.kind == 1) = false := by simp [hk]
  have q2 : (R.kind == 2) = false := by simp [hk]
  have q3 : (R.kind == 3) = false := by simp [hk]
  have q4 : (R.kind == 4) = true := by simp [hk]
  rw [if_neg (by omega), if_neg (by omega), if_neg (by omega), if_pos hk] at hbb
  have HI1 := hid (fun W => rin_b R.count 1 4 W)
  obtain ⟨b1, hb1⟩ : ∃ b1, inB R.count 1 4 = b1 := ⟨_, rfl⟩
  rw [hb1] at HI1 hbb
  have HCD := hid (HRC.out R.count)
  obtain ⟨b2, hb2⟩ : ∃ b2, (inB ((C : Nat) : Int) R.count 20 && !R.cards.any badC) = b2 := ⟨_, rfl⟩
  rw [hb2] at HCD hbb
  have HBB := hid hbb
  clear hbb hb1 hb2
  subst hfe
  clear hce
  have ⟨k0, k1, k2, k3, k4, k5, k6, k7⟩ := cells8 HX.out
  cases b1 with
  | false =>
    go_enter Try.func13, Try.ntmps13
    go_wp2_with (first
      | (go_at_call 38; refine (HI1.out _).mono ?_; rintro e w4 ⟨rfl, rfl⟩)
      | (go_at_call 40; refine (HCD.out _ HCC.out).mono ?_; rintro e w4 ⟨rfl, rfl⟩))
    go_ret
    refine ⟨?_, HB.out⟩
    · rw [← HBB.out]
      simp [inB, bareB] <;> (try intros) <;> omega
  | true =>
    cases b2 with
    | false =>
      go_enter Try.func13, Try.ntmps13
      go_wp2_with (first
        | (go_at_call 38; refine (HI1.out _).mono ?_; rintro e w4 ⟨rfl, rfl⟩)
        | (go_at_call 40; refine (HCD.out _ HCC.out).mono ?_; rintro e w4 ⟨rfl, rfl⟩))
      go_ret
      refine ⟨?_, HB.out⟩
      · rw [← HBB.out]
        simp [inB, bareB] <;> (try intros) <;> omega
    | true =>
      by_cases h_F : F = 0
      · have h_Fb : (((F : Nat) : Int) == 0) = true := by simp [h_F]
        have h_Fn : (((F : Nat) : Int) != 0) = false := by simp [h_F]
        have H_h_F := hid h_F
        clear h_F
        by_cases h_low : R.low = 0
        · have h_lowb : (R.low == 0) = true := by simp [h_low]
          have h_lown : (R.low != 0) = false := by simp [h_low]
          have H_h_low := hid h_low
          clear h_low
          by_cases h_high : R.high = 0
          · have h_highb : (R.high == 0) = true := by simp [h_high]
            have h_highn : (R.high != 0) = false := by simp [h_high]
            have H_h_high := hid h_high
            clear h_high
            by_cases h_group : R.group = 0
            · have h_groupb : (R.group == 0) = true := by simp [h_group]
              have h_groupn : (R.group != 0) = false := by simp [h_group]
              have H_h_group := hid h_group
              clear h_group
              by_cases h_changes : R.changes = 0
              · have h_changesb : (R.changes == 0) = true := by simp [h_changes]
                have h_changesn : (R.changes != 0) = false := by simp [h_changes]
                have H_h_changes := hid h_changes
                clear h_changes
                go_enter Try.func13, Try.ntmps13
                go_wp2_with (first
                  | (go_at_call 38; refine (HI1.out _).mono ?_; rintro e w4 ⟨rfl, rfl⟩)
                  | (go_at_call 40; refine (HCD.out _ HCC.out).mono ?_; rintro e w4 ⟨rfl, rfl⟩))
                go_ret
                refine ⟨?_, HB.out⟩
                · rw [← HBB.out]
                  have x0 := H_h_F.out
                  have x1 := H_h_low.out
                  have x2 := H_h_high.out
                  have x3 := H_h_group.out
                  have x4 := H_h_changes.out
                  simp [inB, bareB] <;> (try intros) <;> omega
              · have h_changesb : (R.changes == 0) = false := by simp [h_changes]
                have h_changesn : (R.changes != 0) = true := by simp [h_changes]
                have H_h_changes := hid h_changes
                clear h_changes
                go_enter Try.func13, Try.ntmps13
                go_wp2_with (first
                  | (go_at_call 38; refine (HI1.out _).mono ?_; rintro e w4 ⟨rfl, rfl⟩)
                  | (go_at_call 40; refine (HCD.out _ HCC.out).mono ?_; rintro e w4 ⟨rfl, rfl⟩))
                go_ret
                refine ⟨?_, HB.out⟩
                · rw [← HBB.out]
                  have x0 := H_h_F.out
                  have x1 := H_h_low.out
                  have x2 := H_h_high.out
                  have x3 := H_h_group.out
                  have x4 := H_h_changes.out
                  simp [inB, bareB] <;> (try intros) <;> omega
            · have h_groupb : (R.group == 0) = false := by simp [h_group]
              have h_groupn : (R.group != 0) = true := by simp [h_group]
              have H_h_group := hid h_group
              clear h_group
              go_enter Try.func13, Try.ntmps13
              go_wp2_with (first
                | (go_at_call 38; refine (HI1.out _).mono ?_; rintro e w4 ⟨rfl, rfl⟩)
                | (go_at_call 40; refine (HCD.out _ HCC.out).mono ?_; rintro e w4 ⟨rfl, rfl⟩))
              go_ret
              refine ⟨?_, HB.out⟩
              · rw [← HBB.out]
                have x0 := H_h_F.out
                have x1 := H_h_low.out
                have x2 := H_h_high.out
                have x3 := H_h_group.out
                simp [inB, bareB] <;> (try intros) <;> omega
          · have h_highb : (R.high == 0) = false := by simp [h_high]
            have h_highn : (R.high != 0) = true := by simp [h_high]
            have H_h_high := hid h_high
            clear h_high
            go_enter Try.func13, Try.ntmps13
            go_wp2_with (first
              | (go_at_call 38; refine (HI1.out _).mono ?_; rintro e w4 ⟨rfl, rfl⟩)
              | (go_at_call 40; refine (HCD.out _ HCC.out).mono ?_; rintro e w4 ⟨rfl, rfl⟩))
            go_ret
            refine ⟨?_, HB.out⟩
            · rw [← HBB.out]
              have x0 := H_h_F.out
              have x1 := H_h_low.out
              have x2 := H_h_high.out
              simp [inB, bareB] <;> (try intros) <;> omega
        · have h_lowb : (R.low == 0) = false := by simp [h_low]
          have h_lown : (R.low != 0) = true := by simp [h_low]
          have H_h_low := hid h_low
          clear h_low
          go_enter Try.func13, Try.ntmps13
          go_wp2_with (first
            | (go_at_call 38; refine (HI1.out _).mono ?_; rintro e w4 ⟨rfl, rfl⟩)
            | (go_at_call 40; refine (HCD.out _ HCC.out).mono ?_; rintro e w4 ⟨rfl, rfl⟩))
          go_ret
          refine ⟨?_, HB.out⟩
          · rw [← HBB.out]
            have x0 := H_h_F.out
            have x1 := H_h_low.out
            simp [inB, bareB] <;> (try intros) <;> omega
      · have h_Fb : (((F : Nat) : Int) == 0) = false := by simp [h_F]
        have h_Fn : (((F : Nat) : Int) != 0) = true := by simp [h_F]
        have H_h_F := hid h_F
        clear h_F
        go_enter Try.func13, Try.ntmps13
        go_wp2_with (first
          | (go_at_call 38; refine (HI1.out _).mono ?_; rintro e w4 ⟨rfl, rfl⟩)
          | (go_at_call 40; refine (HCD.out _ HCC.out).mono ?_; rintro e w4 ⟨rfl, rfl⟩))
        go_ret
        refine ⟨?_, HB.out⟩
        · rw [← HBB.out]
          have x0 := H_h_F.out
          simp [inB, bareB] <;> (try intros) <;> omega
set_option maxHeartbeats 8000000 in
theorem rhand5_c (R : RH) (hk : R.kind = 5) (fv cv : Value) (hf : R.faces.length ≤ 1000) (hc : R.cards.length ≤ 1000) (N : Nat) (w : World) (hR : RawAt w N R fv cv) :
    Calls Try.prog 13 #[.agg (handR R fv cv)] w fun e w' => e = .returned (.bool (okR R)) ∧ Below w.heap.size w w' := by
  have hx := heap_alloc_new w (.cells (handR R fv cv) 26)
  have hb : Below w.heap.size w (w.alloc (.cells (handR R fv cv) 26)) := (Below.refl _ _).alloc (Nat.le_refl _) _
  have HX := hid hx
  have HB := hid hb
  have HR := hid (hR.below (hb.mono hR.le))
  obtain ⟨bb, hbb⟩ : ∃ bb, okR R = bb := ⟨_, rfl⟩
  rw [hbb]
  unfold okR at hbb
  obtain ⟨pf, cf, hfe, -⟩ := hR.faces
  obtain ⟨pc, cc, hce, hcs⟩ := hR.cards
  have HCC := hid (show CrsAt (w.alloc (.cells (handR R fv cv) 26)) N cv R.cards from ⟨HR.out.le, HR.out.cards⟩)
  obtain ⟨F, hF⟩ : ∃ F, R.faces.length = F := ⟨_, rfl⟩
  obtain ⟨C, hC⟩ : ∃ C, R.cards.length = C := ⟨_, rfl⟩
  have HF := hid hF
  have HCL := hid hC
  rw [hF] at hfe hbb hf
  rw [hC] at hce hbb hc
  have HRC := hid (fun (l : Int) W (h : CrsAt W N cv R.cards) => rcards_c R.cards cv l N W (by rw [hC]; omega) h)
  rw [hC] at HRC
  obtain ⟨g, hg⟩ : ∃ g, w.heap.size = g := ⟨_, rfl⟩
  rw [hg] at HX HB
  rw [hg]
  have hNg : N ≤ g := hg ▸ hR.le
  clear hx hb hR hcs hF hC
  have q1 : (R.kind == 1) = false := by simp [hk]
  have q2 : (R.kind == 2) = false := by simp [hk]
  have q3 : (R.kind == 3) = false := by simp [hk]
  have q4 : (R.kind == 4) = false := by simp [hk]
  have q5 : (R.kind == 5) = true := by simp [hk]
  rw [if_neg (by omega), if_neg (by omega), if_neg (by omega), if_neg (by omega), if_pos hk] at hbb
  have HCD := hid (HRC.out 1)
  obtain ⟨b2, hb2⟩ : ∃ b2, (inB ((C : Nat) : Int) 1 20 && !R.cards.any badC) = b2 := ⟨_, rfl⟩
  rw [hb2] at HCD hbb
  have HBB := hid hbb
  clear hbb hb2
  subst hfe
  clear hce
  have ⟨k0, k1, k2, k3, k4, k5, k6, k7⟩ := cells8 HX.out
  cases b2 with
  | false =>
    go_enter Try.func13, Try.ntmps13
    go_wp2_with (go_at_call 40; refine (HCD.out _ HCC.out).mono ?_; rintro e w4 ⟨rfl, rfl⟩)
    go_ret
    refine ⟨?_, HB.out⟩
    · rw [← HBB.out]
      simp [inB, bareB] <;> (try intros) <;> omega
  | true =>
    by_cases h_count : R.count = 0
    · have h_countb : (R.count == 0) = true := by simp [h_count]
      have h_countn : (R.count != 0) = false := by simp [h_count]
      have H_h_count := hid h_count
      clear h_count
      by_cases h_F : F = 0
      · have h_Fb : (((F : Nat) : Int) == 0) = true := by simp [h_F]
        have h_Fn : (((F : Nat) : Int) != 0) = false := by simp [h_F]
        have H_h_F := hid h_F
        clear h_F
        by_cases h_low : R.low = 0
        · have h_lowb : (R.low == 0) = true := by simp [h_low]
          have h_lown : (R.low != 0) = false := by simp [h_low]
          have H_h_low := hid h_low
          clear h_low
          by_cases h_high : R.high = 0
          · have h_highb : (R.high == 0) = true := by simp [h_high]
            have h_highn : (R.high != 0) = false := by simp [h_high]
            have H_h_high := hid h_high
            clear h_high
            by_cases h_group : R.group = 0
            · have h_groupb : (R.group == 0) = true := by simp [h_group]
              have h_groupn : (R.group != 0) = false := by simp [h_group]
              have H_h_group := hid h_group
              clear h_group
              by_cases h_changes : R.changes = 0
              · have h_changesb : (R.changes == 0) = true := by simp [h_changes]
                have h_changesn : (R.changes != 0) = false := by simp [h_changes]
                have H_h_changes := hid h_changes
                clear h_changes
                go_enter Try.func13, Try.ntmps13
                go_wp2_with (go_at_call 40; refine (HCD.out _ HCC.out).mono ?_; rintro e w4 ⟨rfl, rfl⟩)
                go_ret
                refine ⟨?_, HB.out⟩
                · rw [← HBB.out]
                  have x0 := H_h_count.out
                  have x1 := H_h_F.out
                  have x2 := H_h_low.out
                  have x3 := H_h_high.out
                  have x4 := H_h_group.out
                  have x5 := H_h_changes.out
                  simp [inB, bareB] <;> (try intros) <;> omega
              · have h_changesb : (R.changes == 0) = false := by simp [h_changes]
                have h_changesn : (R.changes != 0) = true := by simp [h_changes]
                have H_h_changes := hid h_changes
                clear h_changes
                go_enter Try.func13, Try.ntmps13
                go_wp2_with (go_at_call 40; refine (HCD.out _ HCC.out).mono ?_; rintro e w4 ⟨rfl, rfl⟩)
                go_ret
                refine ⟨?_, HB.out⟩
                · rw [← HBB.out]
                  have x0 := H_h_count.out
                  have x1 := H_h_F.out
                  have x2 := H_h_low.out
                  have x3 := H_h_high.out
                  have x4 := H_h_group.out
                  have x5 := H_h_changes.out
                  simp [inB, bareB] <;> (try intros) <;> omega
            · have h_groupb : (R.group == 0) = false := by simp [h_group]
              have h_groupn : (R.group != 0) = true := by simp [h_group]
              have H_h_group := hid h_group
              clear h_group
              go_enter Try.func13, Try.ntmps13
              go_wp2_with (go_at_call 40; refine (HCD.out _ HCC.out).mono ?_; rintro e w4 ⟨rfl, rfl⟩)
              go_ret
              refine ⟨?_, HB.out⟩
              · rw [← HBB.out]
                have x0 := H_h_count.out
                have x1 := H_h_F.out
                have x2 := H_h_low.out
                have x3 := H_h_high.out
                have x4 := H_h_group.out
                simp [inB, bareB] <;> (try intros) <;> omega
          · have h_highb : (R.high == 0) = false := by simp [h_high]
            have h_highn : (R.high != 0) = true := by simp [h_high]
            have H_h_high := hid h_high
            clear h_high
            go_enter Try.func13, Try.ntmps13
            go_wp2_with (go_at_call 40; refine (HCD.out _ HCC.out).mono ?_; rintro e w4 ⟨rfl, rfl⟩)
            go_ret
            refine ⟨?_, HB.out⟩
            · rw [← HBB.out]
              have x0 := H_h_count.out
              have x1 := H_h_F.out
              have x2 := H_h_low.out
              have x3 := H_h_high.out
              simp [inB, bareB] <;> (try intros) <;> omega
        · have h_lowb : (R.low == 0) = false := by simp [h_low]
          have h_lown : (R.low != 0) = true := by simp [h_low]
          have H_h_low := hid h_low
          clear h_low
          go_enter Try.func13, Try.ntmps13
          go_wp2_with (go_at_call 40; refine (HCD.out _ HCC.out).mono ?_; rintro e w4 ⟨rfl, rfl⟩)
          go_ret
          refine ⟨?_, HB.out⟩
          · rw [← HBB.out]
            have x0 := H_h_count.out
            have x1 := H_h_F.out
            have x2 := H_h_low.out
            simp [inB, bareB] <;> (try intros) <;> omega
      · have h_Fb : (((F : Nat) : Int) == 0) = false := by simp [h_F]
        have h_Fn : (((F : Nat) : Int) != 0) = true := by simp [h_F]
        have H_h_F := hid h_F
        clear h_F
        go_enter Try.func13, Try.ntmps13
        go_wp2_with (go_at_call 40; refine (HCD.out _ HCC.out).mono ?_; rintro e w4 ⟨rfl, rfl⟩)
        go_ret
        refine ⟨?_, HB.out⟩
        · rw [← HBB.out]
          have x0 := H_h_count.out
          have x1 := H_h_F.out
          simp [inB, bareB] <;> (try intros) <;> omega
    · have h_countb : (R.count == 0) = false := by simp [h_count]
      have h_countn : (R.count != 0) = true := by simp [h_count]
      have H_h_count := hid h_count
      clear h_count
      go_enter Try.func13, Try.ntmps13
      go_wp2_with (go_at_call 40; refine (HCD.out _ HCC.out).mono ?_; rintro e w4 ⟨rfl, rfl⟩)
      go_ret
      refine ⟨?_, HB.out⟩
      · rw [← HBB.out]
        have x0 := H_h_count.out
        simp [inB, bareB] <;> (try intros) <;> omega
set_option maxHeartbeats 8000000 in
theorem rhand3_c (R : RH) (hk : R.kind = 3) (fv cv : Value) (hf : R.faces.length ≤ 1000) (hc : R.cards.length ≤ 1000) (N : Nat) (w : World) (hR : RawAt w N R fv cv) :
    Calls Try.prog 13 #[.agg (handR R fv cv)] w fun e w' => e = .returned (.bool (okR R)) ∧ Below w.heap.size w w' := by
  have hx := heap_alloc_new w (.cells (handR R fv cv) 26)
  have hb : Below w.heap.size w (w.alloc (.cells (handR R fv cv) 26)) := (Below.refl _ _).alloc (Nat.le_refl _) _
  have HX := hid hx
  have HB := hid hb
  have HR := hid (hR.below (hb.mono hR.le))
  obtain ⟨bb, hbb⟩ : ∃ bb, okR R = bb := ⟨_, rfl⟩
  rw [hbb]
  unfold okR at hbb
  obtain ⟨pf, cf, hfe, -⟩ := hR.faces
  obtain ⟨pc, cc, hce, hcs⟩ := hR.cards
  have HCC := hid (show CrsAt (w.alloc (.cells (handR R fv cv) 26)) N cv R.cards from ⟨HR.out.le, HR.out.cards⟩)
  obtain ⟨F, hF⟩ : ∃ F, R.faces.length = F := ⟨_, rfl⟩
  obtain ⟨C, hC⟩ : ∃ C, R.cards.length = C := ⟨_, rfl⟩
  have HF := hid hF
  have HCL := hid hC
  rw [hF] at hfe hbb hf
  rw [hC] at hce hbb hc
  have HRC := hid (fun (l : Int) W (h : CrsAt W N cv R.cards) => rcards_c R.cards cv l N W (by rw [hC]; omega) h)
  rw [hC] at HRC
  obtain ⟨g, hg⟩ : ∃ g, w.heap.size = g := ⟨_, rfl⟩
  rw [hg] at HX HB
  rw [hg]
  have hNg : N ≤ g := hg ▸ hR.le
  clear hx hb hR hcs hF hC
  have q1 : (R.kind == 1) = false := by simp [hk]
  have q2 : (R.kind == 2) = false := by simp [hk]
  have q3 : (R.kind == 3) = true := by simp [hk]
  rw [if_neg (by omega), if_neg (by omega), if_pos hk] at hbb
  have HI1 := hid (fun W => rin_b R.group 2 8 W)
  obtain ⟨b1, hb1⟩ : ∃ b1, inB R.group 2 8 = b1 := ⟨_, rfl⟩
  rw [hb1] at HI1 hbb
  have HI2 := hid (fun W => rin_b R.count (2 * R.group + 1) 64 W)
  obtain ⟨b2, hb2⟩ : ∃ b2, inB R.count (2 * R.group + 1) 64 = b2 := ⟨_, rfl⟩
  rw [hb2] at HI2 hbb
  have HI3 := hid (fun W => rin_b R.changes 1 5 W)
  obtain ⟨b3, hb3⟩ : ∃ b3, inB R.changes 1 5 = b3 := ⟨_, rfl⟩
  rw [hb3] at HI3 hbb
  have HBB := hid hbb
  have B1 := hb1
  have B2 := hid hb2
  have B3 := hid hb3
  clear hbb hb1 hb2 hb3
  subst hfe
  subst hce
  have ⟨k0, k1, k2, k3, k4, k5, k6, k7⟩ := cells8 HX.out
  cases b1 with
  | false =>
    clear B1
    go_enter Try.func13, Try.ntmps13
    go_wp2_with (first
      | (go_at_call 38; refine (HI1.out _).mono ?_; rintro e w4 ⟨rfl, rfl⟩; clear HI1)
      | (go_at_call 38; refine (HI2.out _).mono ?_; rintro e w4 ⟨rfl, rfl⟩; clear HI2)
      | (go_at_call 38; refine (HI3.out _).mono ?_; rintro e w4 ⟨rfl, rfl⟩; clear HI3))
    go_ret
    refine ⟨?_, HB.out⟩
    · rw [← HBB.out]
      simp [inB, bareB] <;> (try intros) <;> omega
  | true =>
    have W1 := hid (show IntKind.i64.wrap (2 * R.group) = 2 * R.group from IntWalk.i64_in _ (by simp only [inB, Bool.and_eq_true, decide_eq_true_eq] at B1; omega))
    have W2 := hid (show IntKind.i64.wrap (2 * R.group + 1) = 2 * R.group + 1 from IntWalk.i64_in _ (by simp only [inB, Bool.and_eq_true, decide_eq_true_eq] at B1; omega))
    have w1' := W1.out
    have w2' := W2.out
    cases b2 with
    | false =>
      go_enter Try.func13, Try.ntmps13
      go_wp2_with (first
        | (go_at_call 38; refine (HI1.out _).mono ?_; rintro e w4 ⟨rfl, rfl⟩; clear HI1)
        | (go_at_call 38; refine (HI2.out _).mono ?_; rintro e w4 ⟨rfl, rfl⟩; clear HI2)
        | (go_at_call 38; refine (HI3.out _).mono ?_; rintro e w4 ⟨rfl, rfl⟩; clear HI3))
      go_ret
      refine ⟨?_, HB.out⟩
      · rw [← HBB.out]
        simp [inB, bareB] <;> (try intros) <;> omega
    | true =>
      cases b3 with
      | false =>
        go_enter Try.func13, Try.ntmps13
        go_wp2_with (first
          | (go_at_call 38; refine (HI1.out _).mono ?_; rintro e w4 ⟨rfl, rfl⟩; clear HI1)
          | (go_at_call 38; refine (HI2.out _).mono ?_; rintro e w4 ⟨rfl, rfl⟩; clear HI2)
          | (go_at_call 38; refine (HI3.out _).mono ?_; rintro e w4 ⟨rfl, rfl⟩; clear HI3))
        go_ret
        refine ⟨?_, HB.out⟩
        · rw [← HBB.out]
          simp [inB, bareB] <;> (try intros) <;> omega
      | true =>
        by_cases h_low : R.low = 0
        · have h_lowb : (R.low == 0) = true := by simp [h_low]
          have h_lown : (R.low != 0) = false := by simp [h_low]
          have H_h_low := hid h_low
          clear h_low
          by_cases h_high : R.high = 0
          · have h_highb : (R.high == 0) = true := by simp [h_high]
            have h_highn : (R.high != 0) = false := by simp [h_high]
            have H_h_high := hid h_high
            clear h_high
            by_cases h_F : F = 0
            · have h_Fb : (((F : Nat) : Int) == 0) = true := by simp [h_F]
              have h_Fn : (((F : Nat) : Int) != 0) = false := by simp [h_F]
              have H_h_F := hid h_F
              clear h_F
              by_cases h_C : C = 0
              · have h_Cb : (((C : Nat) : Int) == 0) = true := by simp [h_C]
                have h_Cn : (((C : Nat) : Int) != 0) = false := by simp [h_C]
                have H_h_C := hid h_C
                clear h_C
                have hg2 : 2 ≤ R.group.toNat ∧ R.group.toNat ≤ 8 := by simp only [inB, Bool.and_eq_true, decide_eq_true_eq] at B1; omega
                have hg3 : R.count.toNat ≤ 64 := by have := B2.out; simp only [inB, Bool.and_eq_true, decide_eq_true_eq] at this; omega
                have hg4 : R.changes.toNat ≤ 5 := by have := B3.out; simp only [inB, Bool.and_eq_true, decide_eq_true_eq] at this; omega
                have e1 : ((R.group.toNat : Nat) : Int) = R.group := by simp only [inB, Bool.and_eq_true, decide_eq_true_eq] at B1; omega
                have e2 : ((R.count.toNat : Nat) : Int) = R.count := by have := B2.out; simp only [inB, Bool.and_eq_true, decide_eq_true_eq] at this; omega
                have e3 : ((R.changes.toNat : Nat) : Int) = R.changes := by have := B3.out; simp only [inB, Bool.and_eq_true, decide_eq_true_eq] at this; omega
                have hbl : bb = true ↔ LastR R := by
                  rw [← HBB.out]
                  have x0 := H_h_low.out
                  have x1 := H_h_high.out
                  have x2 := H_h_F.out
                  have x3 := H_h_C.out
                  simp [x0, x1, x2, x3, bareB, hk]
                have HLS := hid (fun W => rlasts_c R.count.toNat R.group.toNat R.changes.toNat hg2 hg3 hg4 bb (hbl.trans (last_can R)) W)
                rw [e1, e2, e3] at HLS
                clear hg2 hg3 hg4 e1 e2 e3 hbl
                go_enter Try.func13, Try.ntmps13
                go_wp2_with (first
                  | (go_at_call 38; refine (HI1.out _).mono ?_; rintro e w4 ⟨rfl, rfl⟩; clear HI1)
                  | (go_at_call 38; refine (HI2.out _).mono ?_; rintro e w4 ⟨rfl, rfl⟩; clear HI2)
                  | (go_at_call 38; refine (HI3.out _).mono ?_; rintro e w4 ⟨rfl, rfl⟩; clear HI3)
                  | (go_at_call 39; refine (HLS.out _).mono ?_; rintro e w5 ⟨rfl, hb5⟩))
                go_ret
                exact ⟨rfl, HB.out.trans (hb5.mono (Nat.le_of_lt (heap_lt HX.out)))⟩
              · have h_Cb : (((C : Nat) : Int) == 0) = false := by simp [h_C]
                have h_Cn : (((C : Nat) : Int) != 0) = true := by simp [h_C]
                have H_h_C := hid h_C
                clear h_C
                go_enter Try.func13, Try.ntmps13
                go_wp2_with (first
                  | (go_at_call 38; refine (HI1.out _).mono ?_; rintro e w4 ⟨rfl, rfl⟩; clear HI1)
                  | (go_at_call 38; refine (HI2.out _).mono ?_; rintro e w4 ⟨rfl, rfl⟩; clear HI2)
                  | (go_at_call 38; refine (HI3.out _).mono ?_; rintro e w4 ⟨rfl, rfl⟩; clear HI3))
                go_ret
                refine ⟨?_, HB.out⟩
                · rw [← HBB.out]
                  have x0 := H_h_low.out
                  have x1 := H_h_high.out
                  have x2 := H_h_F.out
                  have x3 := H_h_C.out
                  simp [inB, bareB] <;> (try intros) <;> omega
            · have h_Fb : (((F : Nat) : Int) == 0) = false := by simp [h_F]
              have h_Fn : (((F : Nat) : Int) != 0) = true := by simp [h_F]
              have H_h_F := hid h_F
              clear h_F
              go_enter Try.func13, Try.ntmps13
              go_wp2_with (first
                | (go_at_call 38; refine (HI1.out _).mono ?_; rintro e w4 ⟨rfl, rfl⟩; clear HI1)
                | (go_at_call 38; refine (HI2.out _).mono ?_; rintro e w4 ⟨rfl, rfl⟩; clear HI2)
                | (go_at_call 38; refine (HI3.out _).mono ?_; rintro e w4 ⟨rfl, rfl⟩; clear HI3))
              go_ret
              refine ⟨?_, HB.out⟩
              · rw [← HBB.out]
                have x0 := H_h_low.out
                have x1 := H_h_high.out
                have x2 := H_h_F.out
                simp [inB, bareB] <;> (try intros) <;> omega
          · have h_highb : (R.high == 0) = false := by simp [h_high]
            have h_highn : (R.high != 0) = true := by simp [h_high]
            have H_h_high := hid h_high
            clear h_high
            go_enter Try.func13, Try.ntmps13
            go_wp2_with (first
              | (go_at_call 38; refine (HI1.out _).mono ?_; rintro e w4 ⟨rfl, rfl⟩; clear HI1)
              | (go_at_call 38; refine (HI2.out _).mono ?_; rintro e w4 ⟨rfl, rfl⟩; clear HI2)
              | (go_at_call 38; refine (HI3.out _).mono ?_; rintro e w4 ⟨rfl, rfl⟩; clear HI3))
            go_ret
            refine ⟨?_, HB.out⟩
            · rw [← HBB.out]
              have x0 := H_h_low.out
              have x1 := H_h_high.out
              simp [inB, bareB] <;> (try intros) <;> omega
        · have h_lowb : (R.low == 0) = false := by simp [h_low]
          have h_lown : (R.low != 0) = true := by simp [h_low]
          have H_h_low := hid h_low
          clear h_low
          go_enter Try.func13, Try.ntmps13
          go_wp2_with (first
            | (go_at_call 38; refine (HI1.out _).mono ?_; rintro e w4 ⟨rfl, rfl⟩; clear HI1)
            | (go_at_call 38; refine (HI2.out _).mono ?_; rintro e w4 ⟨rfl, rfl⟩; clear HI2)
            | (go_at_call 38; refine (HI3.out _).mono ?_; rintro e w4 ⟨rfl, rfl⟩; clear HI3))
          go_ret
          refine ⟨?_, HB.out⟩
          · rw [← HBB.out]
            have x0 := H_h_low.out
            simp [inB, bareB] <;> (try intros) <;> omega
set_option maxHeartbeats 8000000 in
theorem rhand1_c (R : RH) (hk : R.kind = 1) (fv cv : Value) (hf : R.faces.length ≤ 1000) (hc : R.cards.length ≤ 1000) (N : Nat) (w : World) (hR : RawAt w N R fv cv) :
    Calls Try.prog 13 #[.agg (handR R fv cv)] w fun e w' => e = .returned (.bool (okR R)) ∧ Below w.heap.size w w' := by
  have hx := heap_alloc_new w (.cells (handR R fv cv) 26)
  have hb : Below w.heap.size w (w.alloc (.cells (handR R fv cv) 26)) := (Below.refl _ _).alloc (Nat.le_refl _) _
  have HX := hid hx
  have HB := hid hb
  have HR := hid (hR.below (hb.mono hR.le))
  obtain ⟨bb, hbb⟩ : ∃ bb, okR R = bb := ⟨_, rfl⟩
  rw [hbb]
  unfold okR at hbb
  obtain ⟨pf, cf, hfe, -⟩ := hR.faces
  obtain ⟨pc, cc, hce, hcs⟩ := hR.cards
  have HCC := hid (show CrsAt (w.alloc (.cells (handR R fv cv) 26)) N cv R.cards from ⟨HR.out.le, HR.out.cards⟩)
  obtain ⟨F, hF⟩ : ∃ F, R.faces.length = F := ⟨_, rfl⟩
  obtain ⟨C, hC⟩ : ∃ C, R.cards.length = C := ⟨_, rfl⟩
  have HF := hid hF
  have HCL := hid hC
  rw [hF] at hfe hbb hf
  rw [hC] at hce hbb hc
  have HRC := hid (fun (l : Int) W (h : CrsAt W N cv R.cards) => rcards_c R.cards cv l N W (by rw [hC]; omega) h)
  rw [hC] at HRC
  obtain ⟨g, hg⟩ : ∃ g, w.heap.size = g := ⟨_, rfl⟩
  rw [hg] at HX HB
  rw [hg]
  have hNg : N ≤ g := hg ▸ hR.le
  clear hx hb hR hcs hF hC
  have q1 : (R.kind == 1) = true := by simp [hk]
  rw [if_pos hk] at hbb
  have HI1 := hid (fun W => rin_b R.count 1 8 W)
  obtain ⟨b1, hb1⟩ : ∃ b1, inB R.count 1 8 = b1 := ⟨_, rfl⟩
  rw [hb1] at HI1 hbb
  have HI2 := hid (fun W => rin_b ((F : Nat) : Int) 1 20 W)
  obtain ⟨b2, hb2⟩ : ∃ b2, inB ((F : Nat) : Int) 1 20 = b2 := ⟨_, rfl⟩
  rw [hb2] at HI2 hbb
  have HBB := hid hbb
  clear hbb hb1 hb2
  subst hfe
  subst hce
  have HK := hid hk
  clear hk
  have ⟨k0, k1, k2, k3, k4, k5, k6, k7⟩ := cells8 HX.out
  go_enter Try.func13, Try.ntmps13
  go_wp2_with fail
  obtain ⟨w1, hw1⟩ : ∃ w1, w.alloc (.cells (handR R (.slice pf F cf) (.slice pc C cc)) 26) = w1 := ⟨_, rfl⟩
  rw [hw1] at HX HB HR HCC k0 k1 k2 k3 k4 k5 k6 k7 ⊢
  clear hw1
  go_loopw [3] (fun ix wr => ∃ i : Nat, i ≤ F ∧ ix = .int .i64 ((i : Nat) : Int) ∧ (∀ j (h : j < R.faces.length), j < i → badF R.faces[j] = false) ∧ Below w1.heap.size w1 wr) (fun ix _ => F - (intOf ix).toNat)
  case atStart => exact ⟨0, by omega, rfl, fun j _ h => by omega, Below.refl _ _⟩
  case round =>
    obtain ⟨i, hi, rfl, hok, hbw⟩ := hrel
    have ⟨k0, k1, k2, k3, k4, k5, k6, k7⟩ := cells8 (heap_below hbw HX.out (heap_lt HX.out))
    have HFA := hid hok
    have HBW := hid hbw
    have hR2 := HR.out.below (hbw.mono HR.out.le)
    clear hok hbw
    rcases Nat.lt_or_ge i F with hlt | hge
    · have hin : decide (((i : Nat) : Int) < ((F : Nat) : Int)) = true := decide_eq_true (by omega)
      have hin' : ((i : Nat) : Int) < ((F : Nat) : Int) := by omega
      have hi0 : (0 : Int) ≤ ((i : Nat) : Int) := by omega
      have hiL : i < R.faces.length := by rw [HF.out]; exact hlt
      obtain ⟨p', c', e', hfc⟩ := hR2.faces
      injection e' with ep ef ec
      clear ef
      subst ep
      subst ec
      obtain ⟨b, o, rfl, hbN, c1, c2⟩ := hfc i hiL
      have hiw : IntKind.i64.wrap (((i : Nat) : Int) + 1) = ((i + 1 : Nat) : Int) := (IntWalk.i64_in _ (by omega)).trans (by omega)
      have hbd : badF R.faces[i] = !(inB R.faces[i].1 0 40 && inB R.faces[i].2 1 1000) := rfl
      obtain ⟨x, hx⟩ : ∃ x, R.faces[i].1 = x := ⟨_, rfl⟩
      obtain ⟨y, hy⟩ : ∃ y, R.faces[i].2 = y := ⟨_, rfl⟩
      rw [hx] at c1 hbd
      rw [hy] at c2 hbd
      have HIX := hid (fun W => rin_b x 0 40 W)
      have HIY := hid (fun W => rin_b y 1 1000 W)
      obtain ⟨t, ht⟩ : ∃ t, inB x 0 40 = t := ⟨_, rfl⟩
      obtain ⟨u, hu⟩ : ∃ u, inB y 1 1000 = u := ⟨_, rfl⟩
      rw [ht] at HIX hbd
      rw [hu] at HIY hbd
      have HBD := hid hbd
      clear hx hy ht hu hbd hfc hR2
      cases t with
      | false =>
        go_wp2_with (first | (go_at_call 38; refine (HIX.out _).mono ?_; rintro e w4 ⟨rfl, rfl⟩; clear HIX) | (go_at_call 38; refine (HIY.out _).mono ?_; rintro e w4 ⟨rfl, rfl⟩))
        go_ret
        have hany : R.faces.any badF = true := List.any_eq_true.2 ⟨R.faces[i], List.getElem_mem hiL, by rw [HBD.out]; rfl⟩
        exact ⟨by rw [← HBB.out, hany]; simp, HB.out.trans (HBW.out.mono (Nat.le_of_lt (heap_lt HX.out)))⟩
      | true =>
        cases u with
        | false =>
          go_wp2_with (first | (go_at_call 38; refine (HIX.out _).mono ?_; rintro e w4 ⟨rfl, rfl⟩; clear HIX) | (go_at_call 38; refine (HIY.out _).mono ?_; rintro e w4 ⟨rfl, rfl⟩))
          go_ret
          have hany : R.faces.any badF = true := List.any_eq_true.2 ⟨R.faces[i], List.getElem_mem hiL, by rw [HBD.out]; rfl⟩
          exact ⟨by rw [← HBB.out, hany]; simp, HB.out.trans (HBW.out.mono (Nat.le_of_lt (heap_lt HX.out)))⟩
        | true =>
          go_wp2_with (first | (go_at_call 38; refine (HIX.out _).mono ?_; rintro e w4 ⟨rfl, rfl⟩; clear HIX) | (go_at_call 38; refine (HIY.out _).mono ?_; rintro e w4 ⟨rfl, rfl⟩))
          go_roundw
          case rel =>
            refine ⟨i + 1, by omega, rfl, fun j h hj => ?_, HBW.out⟩
            by_cases e : j = i
            · subst e
              rw [HBD.out]
              rfl
            · exact HFA.out j h (by omega)
          case measure => simp only [intOf, Int.toNat_natCast]; omega
    · obtain rfl : i = F := by omega
      have hin : decide (((i : Nat) : Int) < ((i : Nat) : Int)) = false := decide_eq_false (by omega)
      have hany : R.faces.any badF = false := List.any_eq_false.2 fun x hx => by
        obtain ⟨j, hj, rfl⟩ := List.getElem_of_mem hx
        rw [HFA.out j hj (by rw [← HF.out]; exact hj)]
        simp
      clear hR2
      have hk := HK.out
      cases b1 with
      | false =>
        clear HFA
        go_wp2_with (first
          | (go_at_call 38; refine (HI1.out _).mono ?_; rintro e w4 ⟨rfl, rfl⟩; clear HI1)
          | (go_at_call 38; refine (HI2.out _).mono ?_; rintro e w4 ⟨rfl, rfl⟩; clear HI2))
        go_ret
        refine ⟨?_, HB.out.trans (HBW.out.mono (Nat.le_of_lt (heap_lt HX.out)))⟩
        · rw [← HBB.out]
          simp [inB, bareB, hany] <;> (try intros) <;> omega
      | true =>
        cases b2 with
        | false =>
          clear HFA
          go_wp2_with (first
            | (go_at_call 38; refine (HI1.out _).mono ?_; rintro e w4 ⟨rfl, rfl⟩; clear HI1)
            | (go_at_call 38; refine (HI2.out _).mono ?_; rintro e w4 ⟨rfl, rfl⟩; clear HI2))
          go_ret
          refine ⟨?_, HB.out.trans (HBW.out.mono (Nat.le_of_lt (heap_lt HX.out)))⟩
          · rw [← HBB.out]
            simp [inB, bareB, hany] <;> (try intros) <;> omega
        | true =>
          by_cases h_low : R.low = 0
          · have h_lowb : (R.low == 0) = true := by simp [h_low]
            have h_lown : (R.low != 0) = false := by simp [h_low]
            have H_h_low := hid h_low
            clear h_low
            by_cases h_high : R.high = 0
            · have h_highb : (R.high == 0) = true := by simp [h_high]
              have h_highn : (R.high != 0) = false := by simp [h_high]
              have H_h_high := hid h_high
              clear h_high
              by_cases h_group : R.group = 0
              · have h_groupb : (R.group == 0) = true := by simp [h_group]
                have h_groupn : (R.group != 0) = false := by simp [h_group]
                have H_h_group := hid h_group
                clear h_group
                by_cases h_changes : R.changes = 0
                · have h_changesb : (R.changes == 0) = true := by simp [h_changes]
                  have h_changesn : (R.changes != 0) = false := by simp [h_changes]
                  have H_h_changes := hid h_changes
                  clear h_changes
                  by_cases h_C : C = 0
                  · have h_Cb : (((C : Nat) : Int) == 0) = true := by simp [h_C]
                    have h_Cn : (((C : Nat) : Int) != 0) = false := by simp [h_C]
                    have H_h_C := hid h_C
                    clear h_C
                    clear HFA
                    go_wp2_with (first
                      | (go_at_call 38; refine (HI1.out _).mono ?_; rintro e w4 ⟨rfl, rfl⟩; clear HI1)
                      | (go_at_call 38; refine (HI2.out _).mono ?_; rintro e w4 ⟨rfl, rfl⟩; clear HI2))
                    go_ret
                    refine ⟨?_, HB.out.trans (HBW.out.mono (Nat.le_of_lt (heap_lt HX.out)))⟩
                    · rw [← HBB.out]
                      have x0 := H_h_low.out
                      have x1 := H_h_high.out
                      have x2 := H_h_group.out
                      have x3 := H_h_changes.out
                      have x4 := H_h_C.out
                      simp [inB, bareB, hany] <;> (try intros) <;> omega
                  · have h_Cb : (((C : Nat) : Int) == 0) = false := by simp [h_C]
                    have h_Cn : (((C : Nat) : Int) != 0) = true := by simp [h_C]
                    have H_h_C := hid h_C
                    clear h_C
                    clear HFA
                    go_wp2_with (first
                      | (go_at_call 38; refine (HI1.out _).mono ?_; rintro e w4 ⟨rfl, rfl⟩; clear HI1)
                      | (go_at_call 38; refine (HI2.out _).mono ?_; rintro e w4 ⟨rfl, rfl⟩; clear HI2))
                    go_ret
                    refine ⟨?_, HB.out.trans (HBW.out.mono (Nat.le_of_lt (heap_lt HX.out)))⟩
                    · rw [← HBB.out]
                      have x0 := H_h_low.out
                      have x1 := H_h_high.out
                      have x2 := H_h_group.out
                      have x3 := H_h_changes.out
                      have x4 := H_h_C.out
                      simp [inB, bareB, hany] <;> (try intros) <;> omega
                · have h_changesb : (R.changes == 0) = false := by simp [h_changes]
                  have h_changesn : (R.changes != 0) = true := by simp [h_changes]
                  have H_h_changes := hid h_changes
                  clear h_changes
                  clear HFA
                  go_wp2_with (first
                    | (go_at_call 38; refine (HI1.out _).mono ?_; rintro e w4 ⟨rfl, rfl⟩; clear HI1)
                    | (go_at_call 38; refine (HI2.out _).mono ?_; rintro e w4 ⟨rfl, rfl⟩; clear HI2))
                  go_ret
                  refine ⟨?_, HB.out.trans (HBW.out.mono (Nat.le_of_lt (heap_lt HX.out)))⟩
                  · rw [← HBB.out]
                    have x0 := H_h_low.out
                    have x1 := H_h_high.out
                    have x2 := H_h_group.out
                    have x3 := H_h_changes.out
                    simp [inB, bareB, hany] <;> (try intros) <;> omega
              · have h_groupb : (R.group == 0) = false := by simp [h_group]
                have h_groupn : (R.group != 0) = true := by simp [h_group]
                have H_h_group := hid h_group
                clear h_group
                clear HFA
                go_wp2_with (first
                  | (go_at_call 38; refine (HI1.out _).mono ?_; rintro e w4 ⟨rfl, rfl⟩; clear HI1)
                  | (go_at_call 38; refine (HI2.out _).mono ?_; rintro e w4 ⟨rfl, rfl⟩; clear HI2))
                go_ret
                refine ⟨?_, HB.out.trans (HBW.out.mono (Nat.le_of_lt (heap_lt HX.out)))⟩
                · rw [← HBB.out]
                  have x0 := H_h_low.out
                  have x1 := H_h_high.out
                  have x2 := H_h_group.out
                  simp [inB, bareB, hany] <;> (try intros) <;> omega
            · have h_highb : (R.high == 0) = false := by simp [h_high]
              have h_highn : (R.high != 0) = true := by simp [h_high]
              have H_h_high := hid h_high
              clear h_high
              clear HFA
              go_wp2_with (first
                | (go_at_call 38; refine (HI1.out _).mono ?_; rintro e w4 ⟨rfl, rfl⟩; clear HI1)
                | (go_at_call 38; refine (HI2.out _).mono ?_; rintro e w4 ⟨rfl, rfl⟩; clear HI2))
              go_ret
              refine ⟨?_, HB.out.trans (HBW.out.mono (Nat.le_of_lt (heap_lt HX.out)))⟩
              · rw [← HBB.out]
                have x0 := H_h_low.out
                have x1 := H_h_high.out
                simp [inB, bareB, hany] <;> (try intros) <;> omega
          · have h_lowb : (R.low == 0) = false := by simp [h_low]
            have h_lown : (R.low != 0) = true := by simp [h_low]
            have H_h_low := hid h_low
            clear h_low
            clear HFA
            go_wp2_with (first
              | (go_at_call 38; refine (HI1.out _).mono ?_; rintro e w4 ⟨rfl, rfl⟩; clear HI1)
              | (go_at_call 38; refine (HI2.out _).mono ?_; rintro e w4 ⟨rfl, rfl⟩; clear HI2))
            go_ret
            refine ⟨?_, HB.out.trans (HBW.out.mono (Nat.le_of_lt (heap_lt HX.out)))⟩
            · rw [← HBB.out]
              have x0 := H_h_low.out
              simp [inB, bareB, hany] <;> (try intros) <;> omega
theorem rhand_c (R : RH) (fv cv : Value) (hf : R.faces.length ≤ 1000) (hc : R.cards.length ≤ 1000) (N : Nat) (w : World) (hR : RawAt w N R fv cv) :
    Calls Try.prog 13 #[.agg (handR R fv cv)] w fun e w' => e = .returned (.bool (okR R)) ∧ Below w.heap.size w w' := by
  by_cases h1 : R.kind = 1
  · exact rhand1_c R h1 fv cv hf hc N w hR
  by_cases h2 : R.kind = 2
  · exact rhand2_c R h2 fv cv hf hc N w hR
  by_cases h3 : R.kind = 3
  · exact rhand3_c R h3 fv cv hf hc N w hR
  by_cases h4 : R.kind = 4
  · exact rhand4_c R h4 fv cv hf hc N w hR
  by_cases h5 : R.kind = 5
  · exact rhand5_c R h5 fv cv hf hc N w hR
  exact rhand0_c R h1 h2 h3 h4 h5 fv cv w
end Go.Proofs.Ytmjnelkeiogdcaa
