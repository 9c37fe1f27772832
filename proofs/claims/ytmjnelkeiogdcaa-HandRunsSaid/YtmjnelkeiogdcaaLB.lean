/- The law HandRuns. -/
import Derived.Test.YtmjnelkeiogdcaaJU
import Derived.Test.YtmjnelkeiogdcaaKF
import Derived.Test.YtmjnelkeiogdcaaLA
set_option linter.unusedSimpArgs false
set_option linter.unusedVariables false
namespace Go.Proofs.Ytmjnelkeiogdcaa
open Go Go.RowKit Go.Shelf
set_option maxRecDepth 100000

theorem eqFace (a b a' b' : Int) (w : World) : (Op.equalIn 10000 50 (.agg #[.int .i64 a, .int .i64 b]) (.agg #[.int .i64 a', .int .i64 b'])).run Try.prog w = .ok (decide (a = a') && decide (b = b')) w := by
  have u3 := Try.underlying3
  have a3 := Try.isAgg3
  have z3 := Try.sizeOf3
  rw [run_equalIn_struct w 9999 50 _ _ (by kernel_rfl) (by kernel_rfl)]
  simp only [Program.fieldsOf, Try.underlying50]
  go_simp
  by_cases h1 : a = a' <;> by_cases h2 : b = b' <;> simp [h1, h2]
theorem eqChance (a b a' b' : Int) (w : World) : (Op.equalIn 10000 62 (.agg #[.int .i64 a, .int .i64 b]) (.agg #[.int .i64 a', .int .i64 b'])).run Try.prog w = .ok (decide (a = a') && decide (b = b')) w := by
  have u3 := Try.underlying3
  have a3 := Try.isAgg3
  have z3 := Try.sizeOf3
  rw [run_equalIn_struct w 9999 62 _ _ (by kernel_rfl) (by kernel_rfl)]
  simp only [Program.fieldsOf, Try.underlying62]
  go_simp
  by_cases h1 : a = a' <;> by_cases h2 : b = b' <;> simp [h1, h2]
/-- What the calls return. -/
structure RunsV (R : RH) (Cs : List Int) (e0 mn e1 n2 a2 e2 o3 a3 e3 c1 c2 a4 e4 : Int) : Prop where
  chk : ∀ f c W, ReadsF W f R.faces → ReadsA W c R.cards → Calls Try.prog 26 #[.agg (handR R f c)] W fun e w' => e = .returned (.int .i64 e0) ∧ Below W.heap.size W w'
  out : ∀ f c W, ReadsF W f R.faces → ReadsA W c R.cards → Calls Try.prog 27 #[.agg (handR R f c)] W fun e w' => e = .returned (.tuple #[.int .i64 mn, .int .i64 e1]) ∧ Below W.heap.size W w'
  next : ∀ f c v W, ReadsF W f R.faces → ReadsA W c R.cards → ReadsA W v Cs → Calls Try.prog 32 #[.agg (handR R f c), v] W fun e w' => e = .returned (.tuple #[.int .i64 n2, .int .i64 a2, .int .i64 e2]) ∧ Below W.heap.size W w'
  run : ∀ f c v W, ReadsF W f R.faces → ReadsA W c R.cards → ReadsA W v Cs → Calls Try.prog 29 #[.agg (handR R f c), v] W fun e w' => e = .returned (.tuple #[.int .i64 o3, .int .i64 a3, .int .i64 e3]) ∧ Below W.heap.size W w'
  chn : ∀ f c v W, ReadsF W f R.faces → ReadsA W c R.cards → ReadsA W v Cs → Calls Try.prog 33 #[.agg (handR R f c), v] W fun e w' => e = .returned (.tuple #[.agg #[.int .i64 c1, .int .i64 c2], .int .i64 a4, .int .i64 e4]) ∧ Below W.heap.size W w'
/-- The five ways. -/
inductive RunsK (R : RH) (Cs : List Int) : Int → Int → Int → Int → Int → Int → Int → Int → Int → Int → Int → Int → Int → Prop
  | no : okR R = false → RunsK R Cs 2 0 2 0 0 2 0 0 2 0 0 0 2
  | bad (H : HV) (i e : Nat) : R = rawOf H → Val H → e ≠ 0 → folN H (beginS H) Cs 0 = .bad i e → RunsK R Cs 0 ((outsN H : Nat) : Int) 0 0 ((i : Nat) : Int) ((e : Nat) : Int) 0 ((i : Nat) : Int) ((e : Nat) : Int) 0 0 ((i : Nat) : Int) ((e : Nat) : Int)
  | early (H : HV) (t : St) : R = rawOf H → Val H → folN H (beginS H) Cs 0 = .ok t → chN H t ≠ 0 → RunsK R Cs 0 ((outsN H : Nat) : Int) 0 ((chN H t : Nat) : Int) 0 0 0 ((Cs.length : Nat) : Int) 7 0 0 ((Cs.length : Nat) : Int) 7
  | whole (H : HV) (t : St) (d : Nat) : R = rawOf H → Val H → folN H (beginS H) Cs 0 = .ok t → chN H t = 0 → d = denT H (trN H (beginS H) Cs) → d ≤ 1000000000000000 → RunsK R Cs 0 ((outsN H : Nat) : Int) 0 0 0 0 (outN H t) 0 0 1 ((d : Nat) : Int) 0 0
  | full (H : HV) (t : St) (d : Nat) : R = rawOf H → Val H → folN H (beginS H) Cs 0 = .ok t → chN H t = 0 → d = denT H (trN H (beginS H) Cs) → ¬ d ≤ 1000000000000000 → RunsK R Cs 0 ((outsN H : Nat) : Int) 0 0 0 0 (outN H t) 0 0 0 0 0 8
theorem bad_ne (H : HV) : ∀ (L : List Int) (s : St) (k i e : Nat), folN H s L k = .bad i e → e ≠ 0
  | [], s, k, i, e, h => by simp [folN] at h
  | c :: L, s, k, i, e, h => by
    rw [folN] at h
    split at h
    · injection h with _ h; omega
    · split at h
      · injection h with _ h; omega
      · split at h
        · injection h with _ h; omega
        · exact bad_ne H L _ _ i e h
theorem runs_all (R : RH) (Cs : List Int) (hf : R.faces.length ≤ 1000) (hc : R.cards.length ≤ 1000) (hn : Cs.length ≤ 1000000) (h63 : ∀ c ∈ Cs, c ≤ 9223372036854775807) :
    ∃ e0 mn e1 n2 a2 e2 o3 a3 e3 c1 c2 a4 e4, RunsV R Cs e0 mn e1 n2 a2 e2 o3 a3 e3 c1 c2 a4 e4 ∧ RunsK R Cs e0 mn e1 n2 a2 e2 o3 a3 e3 c1 c2 a4 e4 := by
  cases hok : okR R with
  | false =>
    refine ⟨_, _, _, _, _, _, _, _, _, _, _, _, _, ⟨fun f c W h1 h2 => ?_, fun f c W h1 h2 => ?_, fun f c v W h1 h2 h3 => ?_, fun f c v W h1 h2 h3 => ?_, fun f c v W h1 h2 h3 => ?_⟩, .no hok⟩
    · exact check_no R hok f c W.heap.size W (RawAt.came h1 h2) hf hc
    · exact Outcomes_no R hok f c W.heap.size W (RawAt.came h1 h2) hf hc
    · obtain ⟨p, m, rfl⟩ := h3.form
      exact Next_no R hok f c W.heap.size p Cs.length m W (RawAt.came h1 h2) hf hc
    · obtain ⟨p, m, rfl⟩ := h3.form
      exact Run_no R hok f c W.heap.size p Cs.length m W (RawAt.came h1 h2) hf hc
    · obtain ⟨p, m, rfl⟩ := h3.form
      exact Chance_no R hok f c W.heap.size p Cs.length m W (RawAt.came h1 h2) hf hc
  | true =>
    obtain ⟨H, rfl, hV⟩ : ∃ H, R = rawOf H ∧ Val H := ⟨toH R, (Val.of hok).2.symm, (Val.of hok).1⟩
    have k0 := fun f c W (h1 : ReadsF W f (rawOf H).faces) (h2 : ReadsA W c (rawOf H).cards) => check_yes H hV f c W.heap.size W (RawAt.came h1 h2)
    have k1 := fun f c W (h1 : ReadsF W f (rawOf H).faces) (h2 : ReadsA W c (rawOf H).cards) => Outcomes_yes H hV f c W.heap.size W (RawAt.came h1 h2)
    have k2 := fun f c v W (h1 : ReadsF W f (rawOf H).faces) (h2 : ReadsA W c (rawOf H).cards) (h3 : ReadsA W v Cs) => Next_yes W.heap.size W.heap.size H hV f c v Cs hn h63 W (RawAt.came h1 h2) (CrsAt.came h3)
    have k3 := fun f c v W (h1 : ReadsF W f (rawOf H).faces) (h2 : ReadsA W c (rawOf H).cards) (h3 : ReadsA W v Cs) => Run_yes W.heap.size W.heap.size H hV f c v Cs hn h63 W (RawAt.came h1 h2) (CrsAt.came h3)
    have k4 := fun f c v W (h1 : ReadsF W f (rawOf H).faces) (h2 : ReadsA W c (rawOf H).cards) (h3 : ReadsA W v Cs) => Chance_yes W.heap.size W.heap.size H hV f c v Cs hn h63 W (RawAt.came h1 h2) (CrsAt.came h3)
    cases hfol : folN H (beginS H) Cs 0 with
    | bad i e =>
      have hful : fulN H (beginS H) Cs = .bad i e := by unfold fulN; rw [hfol]
      rw [hful] at k3 k4
      rw [hfol] at k2
      exact ⟨_, _, _, _, _, _, _, _, _, _, _, _, _, ⟨k0, k1, k2, k3, k4⟩, .bad H i e rfl hV (bad_ne H _ _ _ _ _ hfol) hfol⟩
    | ok t =>
      by_cases h0 : chN H t = 0
      · have hful : fulN H (beginS H) Cs = .ok t := by unfold fulN; rw [hfol]; simp only [if_pos h0]
        rw [hful] at k3 k4
        rw [hfol] at k2
        simp only [nextV, h0] at k2
        by_cases hd : denT H (trN H (beginS H) Cs) ≤ 1000000000000000
        · simp only [chanceV, if_pos hd] at k4
          exact ⟨_, _, _, _, _, _, _, _, _, _, _, _, _, ⟨k0, k1, k2, k3, k4⟩, .whole H t _ rfl hV hfol h0 rfl hd⟩
        · simp only [chanceV, if_neg hd] at k4
          exact ⟨_, _, _, _, _, _, _, _, _, _, _, _, _, ⟨k0, k1, k2, k3, k4⟩, .full H t _ rfl hV hfol h0 rfl hd⟩
      · have hful : fulN H (beginS H) Cs = .bad Cs.length 7 := by unfold fulN; rw [hfol]; simp only [if_neg h0]
        rw [hful] at k3 k4
        rw [hfol] at k2
        exact ⟨_, _, _, _, _, _, _, _, _, _, _, _, _, ⟨k0, k1, k2, k3, k4⟩, .early H t rfl hV hfol h0⟩
open Go.ChangeShapes Go.WideShapes in
theorem open_capd {W : World} {b0 : Nat} {v : Value} (hv : Value.okWide Try.prog W .any b0 24 v) : Capd v := by
  intro p n c e
  subst e
  unfold Value.okWide at hv
  simp only [Try.underlying24, Cell.okWide] at hv
  unfold Cell.ok at hv
  simp only [Try.underlying24] at hv
  cases p with
  | none =>
    split at hv <;> simp_all
  | some a => exact hv.1
theorem wf_le {xs : List Int} (h : ∀ z ∈ xs, (Lit.int .i64 z).wf = true) : ∀ c ∈ xs, c ≤ 9223372036854775807 := fun c hc => by
  have h1 := h c hc
  simp [Lit.wf] at h1
  exact h1.2
theorem tr_snoc (H : HV) : ∀ (A : List Nat) (s u : St) (c : Nat) (t : St), runN H s A = some u → pick (brs H u) c = some t →
    trN H s ((A ++ [c]).map fun c => ((c : Nat) : Int)) = trN H s (A.map fun c => ((c : Nat) : Int)) ++ [(u, ((c : Nat) : Int))]
  | [], s, u, c, t, hr, hp => by
    simp only [runN, Option.some.injEq] at hr
    subst hr
    have h0 : chN H s ≠ 0 := by have := pick_lt _ _ _ hp; rw [← chN_sum] at this; omega
    have hn : ¬ ((c : Nat) : Int) < 0 := by omega
    simp only [List.nil_append, List.map_cons, List.map_nil, trN, if_neg h0, if_neg hn, Int.toNat_natCast, hp]
  | a :: A, s, u, c, t, hr, hp => by
    rw [runN] at hr
    cases hv : pick (brs H s) a with
    | none => rw [hv] at hr; cases hr
    | some v =>
      rw [hv] at hr
      have h0 : chN H s ≠ 0 := by have := pick_lt _ _ _ hv; rw [← chN_sum] at this; omega
      have hn : ¬ ((a : Nat) : Int) < 0 := by omega
      have ih := tr_snoc H A v u c t hr hp
      simp only [List.cons_append, List.map_cons, trN, if_neg h0, if_neg hn, Int.toNat_natCast, hv]
      rw [ih]
theorem den_steps (H : HV) (hO : Okh H) (xs : List Nat) (t : St) (hr : runN H (beginS H) xs = some t) (k : Nat) (hk : k < xs.length) :
    ∃ u, runN H (beginS H) (xs.take k) = some u ∧ denT H (trN H (beginS H) ((xs.take (k + 1)).map fun c => ((c : Nat) : Int))) = timesN (denT H (trN H (beginS H) ((xs.take k).map fun c => ((c : Nat) : Int)))) (chN H u) ∧ chN H u ≤ 20000 := by
  have hsp : xs = (xs.take k ++ [xs[k]]) ++ xs.drop (k + 1) := by simp
  rw [hsp] at hr
  obtain ⟨v, h1, _⟩ := run_take H _ _ _ _ hr
  obtain ⟨u, h3, h4⟩ := run_split H _ _ _ _ h1
  have ht : xs.take (k + 1) = xs.take k ++ [xs[k]] := by rw [List.take_add_one, List.getElem?_eq_getElem hk]; rfl
  refine ⟨u, h3, ?_, brs_small H u (run_fit H _ _ _ (begin_fit H hO) h3).1⟩
  rw [ht, tr_snoc H _ _ u _ _ h3 h4, den_append]
theorem end_dep0 (H : HV) (hV : Val H) (xs : List Nat) (t : St) (hr : runN H (beginS H) xs = some t) (h0 : chN H t = 0) : dep t = 0 := Classical.byContradiction fun hd => by
  have := hV.hand.last xs.length t ((reach_run H hV.hand.wide _ _ _).2 ⟨xs, rfl, hr⟩) hd
  omega
/-- What holds between the calls. -/
structure RunI (g : Nat) (w : World) (R : RH) (fv cv : Value) (x : Nat) (fi ci li : Value) (Cs : List Int) (W : World) : Prop where
  bel : Below g w W
  hx : W.heap[g]? = some (.cells (handR R fv cv) 26 (0, 0))
  xb : W.heap[x]? = some (.cells (handR R fi ci) 26 (0, 0))
  ff : FO W g fi R.faces
  cc : Ints W g ci R.cards
  ll : Ints W g li Cs
theorem RunI.below {g : Nat} {w : World} {R : RH} {fv cv : Value} {x : Nat} {fi ci li : Value} {Cs : List Int} {W W' : World} (h : RunI g w R fv cv x fi ci li Cs W) (hb : Below W.heap.size W W') : RunI g w R fv cv x fi ci li Cs W' :=
  ⟨h.bel.trans (hb.mono (Nat.le_of_lt (heap_lt h.hx))), heap_below hb h.hx (heap_lt h.hx), heap_below hb h.xb (heap_lt h.xb), h.ff.below hb, h.cc.below hb, h.ll.below hb⟩
set_option maxHeartbeats 8000000 in
theorem runs_c (R : RH) (fv cv : Value) (Cs : List Int) (v : Value) (w : World) (hrf : ReadsF w fv R.faces) (hrc : ReadsA w cv R.cards) (hcr : ReadsA w v Cs) (hcp : Capd v) (h63 : ∀ c ∈ Cs, c ≤ 9223372036854775807) :
    Calls Try.prog 10 #[.agg (handR R fv cv), v] w fun e w' => e = .returned (.bool true) ∧ Below w.heap.size w w' := by
  have hx := heap_alloc_new w (.cells (handR R fv cv) 26)
  have hb : Below w.heap.size w (w.alloc (.cells (handR R fv cv) 26)) := (Below.refl _ _).alloc (Nat.le_refl _) _
  have HX := hid hx
  have HB := hid hb
  obtain ⟨pf, cf, hfe⟩ := hrf.form
  obtain ⟨pc, cc, hce⟩ := hrc.form
  obtain ⟨pu, cu, hue⟩ := hcr.form
  have HLG := hid (fun W => large_c R pf pc R.faces.length cf R.cards.length cc W)
  rw [← hfe, ← hce] at HLG
  obtain ⟨g, hg⟩ : ∃ g, w.heap.size = g := ⟨_, rfl⟩
  rw [hg] at HX HB
  clear hx hb
  obtain ⟨n0, hn0⟩ : ∃ n0, Cs.length = n0 := ⟨_, rfl⟩
  rw [hn0] at hue
  by_cases hbig : 30 < R.faces.length ∨ 30 < R.cards.length
  · have hbg : (decide (30 < R.faces.length) || decide (30 < R.cards.length)) = true := by simpa using hbig
    rw [hbg] at HLG
    clear hbig hbg hfe hce hue hrf hrc hcr h63 hcp
    go_enter Try.func10, Try.ntmps10
    go_wp2_with (first
      | (refine wpList_value rfl (by intro c hc; cases hc) (.agg (handR R fv cv)) (exec_ldR rfl rfl HX.out) ?_)
      | (go_at_call 11; refine (HLG.out _).mono ?_; rintro e w1 ⟨rfl, hb1⟩; have HB1 := hid (HB.out.trans (hb1.mono (by simp; omega))); have HX1 := hid (heap_below hb1 HX.out (heap_lt HX.out)); have hg1 : g < w1.heap.size := heap_lt HX1.out)
      | (go_at_call 12; refine (known_c _).mono ?_; rintro e wk ⟨rfl, hbk⟩))
    go_ret
    exact ⟨rfl, by rw [hg]; exact HB1.out.trans (hbk.mono (by omega))⟩
  · have hsm : (decide (30 < R.faces.length) || decide (30 < R.cards.length)) = false := by simpa using hbig
    rw [hsm] at HLG
    have hlf : R.faces.length ≤ 30 := by omega
    have hlc : R.cards.length ≤ 30 := by omega
    by_cases hlong : 30 < n0
    · have hl1 : decide ((30 : Int) < ((n0 : Nat) : Int)) = true := decide_eq_true (by omega)
      have hl2 : (30 : Int) < ((n0 : Nat) : Int) := by omega
      subst hue
      clear hbig hsm hfe hce hrf hrc hcr h63 hcp hlf hlc
      go_enter Try.func10, Try.ntmps10
      go_wp2_with (first
        | (refine wpList_value rfl (by intro c hc; cases hc) (.agg (handR R fv cv)) (exec_ldR rfl rfl HX.out) ?_)
        | (go_at_call 11; refine (HLG.out _).mono ?_; rintro e w1 ⟨rfl, hb1⟩; have HB1 := hid (HB.out.trans (hb1.mono (by simp; omega))); have HX1 := hid (heap_below hb1 HX.out (heap_lt HX.out)); have hg1 : g < w1.heap.size := heap_lt HX1.out)
        | (go_at_call 12; refine (known_c _).mono ?_; rintro e wk ⟨rfl, hbk⟩))
      go_ret
      exact ⟨rfl, by rw [hg]; exact HB1.out.trans (hbk.mono (by omega))⟩
    · have hl1 : decide ((30 : Int) < ((n0 : Nat) : Int)) = false := decide_eq_false (by omega)
      have hl2 : ¬ (30 : Int) < ((n0 : Nat) : Int) := by omega
      obtain ⟨e0, mn, e1, n2, a2, e2, o3, a3, e3, k1, k2, a4, e4, hRV, hRK⟩ := runs_all R Cs (by omega) (by omega) (by omega) h63
      have HRV := hid hRV
      have HRK := hid hRK
      have HRF := hid hrf
      have HRC := hid hrc
      have HCR := hid hcr
      have HCP := hid hcp
      obtain ⟨F, hF⟩ : ∃ F, R.faces.length = F := ⟨_, rfl⟩
      obtain ⟨C, hC⟩ : ∃ C, R.cards.length = C := ⟨_, rfl⟩
      rw [hF] at hfe hlf
      rw [hC] at hce hlc
      have HF := hid hF
      have HC := hid hC
      have HN0 := hid hn0
      subst hue
      clear hbig hsm hRV hRK hrf hrc hcr hcp h63 hn0
      subst hfe
      subst hce
      clear hF hC
      go_enter Try.func10, Try.ntmps10
      go_upto_region 4 with (first
        | (refine wpList_value rfl (by intro c hc; cases hc) (.agg (handR R (.slice pf F cf) (.slice pc C cc))) (exec_ldR rfl rfl HX.out) ?_)
        | (refine wpList_value rfl (by intro c hc; cases hc) (.agg (handR R (.slice pf F cf) (.slice pc C cc))) (exec_ldR rfl rfl HX1.out) ?_)
        | (go_at_call 11; refine (HLG.out _).mono ?_; rintro e w1 ⟨rfl, hb1⟩; have HB1 := hid (HB.out.trans (hb1.mono (by simp; omega))); have HX1 := hid (heap_below hb1 HX.out (heap_lt HX.out)); have hg1 : g < w1.heap.size := heap_lt HX1.out)
        | (go_at_call 15; refine (own_c R (.slice pf F cf) (.slice pc C cc) w1 (HRF.out.below (hg ▸ HB1.out)) (HRC.out.below (hg ▸ HB1.out)) (by rw [HF.out]; omega) (by rw [HC.out]; omega)).mono ?_; rintro e w2 ⟨ff, cq, rfl, hf1, hc1, hb2⟩; obtain ⟨p1, m1, c1, rfl⟩ := hf1.slice; obtain ⟨p2, m2, c2, rfl⟩ := hc1.slice; have HB2 := hid (HB1.out.trans (hb2.mono (by omega))); have HX2 := hid (heap_below hb2 HX1.out (heap_lt HX1.out)); have hg2 : g < w2.heap.size := heap_lt HX2.out)
        | (go_at_call 25; refine (ints_c _ Cs w2 (HCR.out.below (hg ▸ HB2.out)) (by rw [HN0.out]; omega)).mono ?_; rintro e w3 ⟨vl, rfl, hl3, hb3⟩; have HB3 := hid (HB2.out.trans (hb3.mono (by omega))); have HX3 := hid (heap_below hb3 HX2.out (heap_lt HX2.out)); have hg3 : g < w3.heap.size := heap_lt HX3.out; have st := storeH Try.prog (heap_alloc_new w3 (.cells #[.int .i64 0, .int .i64 0, .slice none 0 0, .int .i64 0, .int .i64 0, .int .i64 0, .int .i64 0, .slice none 0 0] 26)) rfl R p1 p2 m1 c1 m2 c2))
      have hz8 := heap_alloc_new w3 (.cells #[.int .i64 0, .int .i64 0, .slice none 0 0, .int .i64 0, .int .i64 0, .int .i64 0, .int .i64 0, .slice none 0 0] 26)
      have hbz : Below w3.heap.size w3 ((w3.alloc (.cells #[.int .i64 0, .int .i64 0, .slice none 0 0, .int .i64 0, .int .i64 0, .int .i64 0, .int .i64 0, .slice none 0 0] 26)).setRow w3.heap.size (handR R (.slice p1 m1 c1) (.slice p2 m2 c2))) := ((Below.refl _ _).alloc (Nat.le_refl _) _).trans (setRow_below (Nat.le_refl _))
      have hI : RunI g w R (.slice pf F cf) (.slice pc C cc) w3.heap.size (.slice p1 m1 c1) (.slice p2 m2 c2) vl Cs ((w3.alloc (.cells #[.int .i64 0, .int .i64 0, .slice none 0 0, .int .i64 0, .int .i64 0, .int .i64 0, .int .i64 0, .slice none 0 0] 26)).setRow w3.heap.size (handR R (.slice p1 m1 c1) (.slice p2 m2 c2))) :=
        ⟨HB3.out.trans (hbz.mono (by omega)), heap_below hbz HX3.out (heap_lt HX3.out), setRow_at hz8, ((hf1.mono (by omega)).below hb3).below hbz, ((hc1.mono (by omega)).below hb3).below hbz, (hl3.mono (by omega)).below hbz⟩
      obtain ⟨x, hxx⟩ : ∃ x, w3.heap.size = x := ⟨_, rfl⟩
      rw [hxx] at hI hg3 ⊢
      generalize (w3.alloc (.cells #[.int .i64 0, .int .i64 0, .slice none 0 0, .int .i64 0, .int .i64 0, .int .i64 0, .int .i64 0, .slice none 0 0] 26)).setRow x (handR R (.slice p1 m1 c1) (.slice p2 m2 c2)) = w4 at hI ⊢
      have HI4 := hid hI
      clear hI hbz hz8 st hl3 hf1 hc1 hb1 hb2 hb3 HX HX1 HX2 HX3 HB HB1 HB2 HB3 hxx HLG
      go_upto_region 9 with (first
        | (refine wpList_value rfl (by intro c hc; cases hc) (.agg (handR R (.slice p1 m1 c1) (.slice p2 m2 c2))) (exec_ldR rfl rfl HI4.out.xb) ?_)
        | (refine wpList_value rfl (by intro c hc; cases hc) (.agg (handR R (.slice p1 m1 c1) (.slice p2 m2 c2))) (exec_ldR rfl rfl HI5.out.xb) ?_)
        | (refine wpList_value rfl (by intro c hc; cases hc) (.agg (handR R (.slice p1 m1 c1) (.slice p2 m2 c2))) (exec_ldR rfl rfl HI6.out.xb) ?_)
        | (refine wpList_value rfl (by intro c hc; cases hc) (.agg (handR R (.slice p1 m1 c1) (.slice p2 m2 c2))) (exec_ldR rfl rfl HI7.out.xb) ?_)
        | (refine wpList_value rfl (by intro c hc; cases hc) (.agg (handR R (.slice p1 m1 c1) (.slice p2 m2 c2))) (exec_ldR rfl rfl HI8.out.xb) ?_)
        | (go_at_call 26; refine (HRV.out.chk _ _ w4 HI4.out.ff.reads HI4.out.cc.readsA).mono ?_; rintro e w5 ⟨rfl, hb5⟩; have HI5 := hid (HI4.out.below hb5); clear hb5)
        | (go_at_call 27; refine (HRV.out.out _ _ w5 HI5.out.ff.reads HI5.out.cc.readsA).mono ?_; rintro e w6 ⟨rfl, hb6⟩; have HI6 := hid (HI5.out.below hb6); clear hb6)
        | (go_at_call 32; refine (HRV.out.next _ _ vl w6 HI6.out.ff.reads HI6.out.cc.readsA HI6.out.ll.readsA).mono ?_; rintro e w7 ⟨rfl, hb7⟩; have HI7 := hid (HI6.out.below hb7); clear hb7)
        | (go_at_call 29; refine (HRV.out.run _ _ vl w7 HI7.out.ff.reads HI7.out.cc.readsA HI7.out.ll.readsA).mono ?_; rintro e w8 ⟨rfl, hb8⟩; have HI8 := hid (HI7.out.below hb8); clear hb8)
        | (go_at_call 33; refine (HRV.out.chn _ _ vl w8 HI8.out.ff.reads HI8.out.cc.readsA HI8.out.ll.readsA).mono ?_; rintro e w9 ⟨rfl, hb9⟩; have HI9 := hid (HI8.out.below hb9); clear hb9))
      have hI10 := (HI9.out.below (W' := w9.alloc (.cells #[.int .i64 k1, .int .i64 k2] 62)) ((Below.refl _ _).alloc (Nat.le_refl _) _))
      have hy10 := heap_alloc_new w9 (.cells #[.int .i64 k1, .int .i64 k2] 62)
      obtain ⟨y, hyy⟩ : ∃ y, w9.heap.size = y := ⟨_, rfl⟩
      rw [hyy] at hy10 ⊢
      generalize w9.alloc (.cells #[.int .i64 k1, .int .i64 k2] 62) = wx at hI10 hy10 ⊢
      have HIX := hid hI10
      have HYX := hid hy10
      have ⟨g0, g1, g2, g3, g4, g5, g6, g7⟩ := cells8 hI10.hx
      have ⟨x0, x1, x2, x3, x4, x5, x6, x7⟩ := cells8 hI10.xb
      clear hI10 hy10 hyy HI4 HI5 HI6 HI7 HI8 HI9
      have hdC : decide (Cs = Cs) = true := decide_eq_true rfl
      have hdD : decide (R.cards = R.cards) = true := decide_eq_true rfl
      have hmF : F = m1 := by
        rcases HIX.out.ff.2 with ⟨h1, h2⟩ | ⟨_, _, _, h1, _⟩
        · injection h1 with _ h1; rw [h1, ← HF.out, h2]
        · injection h1 with _ h1; rw [h1, HF.out]
      subst hmF
      have hFF : (((F : Nat) : Int) != ((F : Nat) : Int)) = false := by simp
      have HSA := hid trivial
      go_upto_region 11 with (first
        | (go_at_call 18; have hq := HSA; clear hq HSA; refine (sam_c vl (.slice pu n0 cu) Cs Cs wx HIX.out.ll.reads (HCR.out.below (hg ▸ HIX.out.bel)).reads (by rw [HN0.out]; omega) (by rw [HN0.out]; omega)).mono ?_; rintro e wy ⟨rfl, hby⟩; have HIY := hid (HIX.out.below hby); have HYY := hid (heap_below hby HYX.out (heap_lt HYX.out)); clear g0 g1 g2 g3 g4 g5 g6 g7 x0 x1 x2 x3 x4 x5 x6 x7 hby; have ⟨g0, g1, g2, g3, g4, g5, g6, g7⟩ := cells8 HIY.out.hx; have ⟨x0, x1, x2, x3, x4, x5, x6, x7⟩ := cells8 HIY.out.xb)
        | (go_at_call 18; refine (sam_c (.slice p2 m2 c2) (.slice pc C cc) R.cards R.cards wy HIY.out.cc.reads (HRC.out.below (hg ▸ HIY.out.bel)).reads (by rw [HC.out]; omega) (by rw [HC.out]; omega)).mono ?_; rintro e wz ⟨rfl, hbz⟩; have HIZ := hid (HIY.out.below hbz); have HYZ := hid (heap_below hbz HYY.out (heap_lt HYY.out)); clear g0 g1 g2 g3 g4 g5 g6 g7 x0 x1 x2 x3 x4 x5 x6 x7 hbz; have ⟨g0, g1, g2, g3, g4, g5, g6, g7⟩ := cells8 HIZ.out.hx; have ⟨x0, x1, x2, x3, x4, x5, x6, x7⟩ := cells8 HIZ.out.xb))
      clear g0 g1 g2 g3 g4 g5 g6 g7 x0 x1 x2 x3 x4 x5 x6 x7 HIX HYX HIY HYY hFF hdC hdD
      go_wp2_with fail
      go_loopw [19] (fun ix wr => ∃ i : Nat, i ≤ F ∧ ix = .int .i64 ((i : Nat) : Int) ∧ Below wz.heap.size wz wr) (fun ix _ => F - (intOf ix).toNat)
      case atStart => exact ⟨0, by omega, rfl, Below.refl _ _⟩
      case round =>
        obtain ⟨i, hi, rfl, hB⟩ := hrel
        have hIR := HIZ.out.below hB
        have hYR := heap_below hB HYZ.out (heap_lt HYZ.out)
        have cg : wr.cell? ⟨g, 2, none⟩ = some (.slice pf F cf) := cell_of_row wr g 2 _ _ _ hIR.hx
        rcases Nat.lt_or_ge i F with hlt | hge
        · have hin : decide (((i : Nat) : Int) < ((F : Nat) : Int)) = true := decide_eq_true (by omega)
          have hin' : ((i : Nat) : Int) < ((F : Nat) : Int) := by omega
          have hi0 : (0 : Int) ≤ ((i : Nat) : Int) := by omega
          have hiw : IntKind.i64.wrap (((i : Nat) : Int) + 1) = ((i + 1 : Nat) : Int) := (IntWalk.i64_in _ (by omega)).trans (by omega)
          have hiL : i < R.faces.length := by rw [HF.out]; exact hlt
          obtain ⟨p', c', e', hfc⟩ := (RawAt.came (HRF.out.below (hg ▸ hIR.bel)) (HRC.out.below (hg ▸ hIR.bel))).faces
          injection e' with ep ef ec
          clear ef
          subst ep
          subst ec
          obtain ⟨bh, oh, hpf, hbN, d1, d2⟩ := hfc i hiL
          subst hpf
          obtain ⟨q, hq, hq2⟩ := hIR.ff.form (by omega)
          clear hq2
          subst hq
          obtain ⟨t1, t2, -, -, -⟩ := hIR.ff.cells i hiL
          have cb : wr.cell? ⟨x, 2, none⟩ = some (.slice (some ⟨q, 0, none⟩) F c1) := cell_of_row wr x 2 _ _ _ hIR.xb
          obtain ⟨X, hX⟩ : ∃ X, R.faces[i].1 = X := ⟨_, rfl⟩
          obtain ⟨Y, hY⟩ : ∃ Y, R.faces[i].2 = Y := ⟨_, rfl⟩
          rw [hX] at d1 t1
          rw [hY] at d2 t2
          have heq : ∀ W, (Op.equalIn 10000 50 (.agg #[.int .i64 X, .int .i64 Y]) (.agg #[.int .i64 X, .int .i64 Y])).run Try.prog W = .ok true W := fun W => by rw [eqFace]; simp
          have HBR := hid hB
          clear hIR hYR hfc hX hY hB hbN
          go_upto_region 14 with fail
          go_quiet (fail)
          go_wp2_with fail
          go_roundw
          case rel => exact ⟨i + 1, by omega, rfl, HBR.out.trans ⟨rfl, rfl, rfl, Nat.le_refl _, fun _ _ => rfl⟩⟩
          case measure => simp only [intOf, Int.toNat_natCast]; omega
        · have e : F = i := by omega
          subst e
          have hin : decide (((F : Nat) : Int) < ((F : Nat) : Int)) = false := decide_eq_false (by omega)
          have HIR := hid hIR
          have HYR := hid hYR
          clear hB hIR hYR HIZ HYZ hi hge
          go_upto_region 16 with fail
          have HRA := hid (fun W (hW : Below g w W) => RawAt.came (HRF.out.below (hg ▸ hW)) (HRC.out.below (hg ▸ hW)))
          have HCA := hid (fun W (hW : Below g w W) => CrsAt.came (HCR.out.below (hg ▸ hW)))
          have HHD := hid (fun W (hW : Below g w W) => rhand_c R _ _ (by rw [HF.out]; omega) (by rw [HC.out]; omega) W.heap.size W (HRA.out W hW))
          have hk := HRK.out
          clear HRK HRV cg
          cases hk with
          | no hok =>
            rw [hok] at HHD
            have heq : ∀ W, (Op.equalIn 10000 62 (.agg #[.int .i64 (0), .int .i64 (0)]) (.agg #[.int .i64 (0), .int .i64 (0)])).run Try.prog W = .ok true W := fun W => by rw [eqChance]; simp
            go_wp2_with (first
              | (refine wpList_value rfl (by intro c hc; cases hc) (.agg (handR (R) (.slice pf F cf) (.slice pc C cc))) (exec_ldR rfl rfl HIR.out.hx) ?_)
              | (go_at_call 13; refine (HHD.out wr HIR.out.bel).mono ?_; rintro e wH ⟨rfl, hbh⟩; have HIH := hid (HIR.out.below hbh); have HYH := hid (heap_below hbh HYR.out (heap_lt HYR.out)); have ⟨g0, g1, g2, g3, g4, g5, g6, g7⟩ := cells8 HIH.out.hx; have cy0 : wH.cell? ⟨y, 0, none⟩ = some (.int .i64 (0)) := cell_of_row wH y 0 _ _ _ HYH.out; have cy1 : wH.cell? ⟨y, 1, none⟩ = some (.int .i64 (0)) := cell_of_row wH y 1 _ _ _ HYH.out; clear hbh)
              | (go_at_call 12; refine (known_c _).mono ?_; rintro e wK ⟨rfl, hbk⟩; have HIK := hid (HIH.out.below hbk)))
            go_ret
            exact ⟨rfl, by rw [hg]; exact HIK.out.bel⟩
          | bad H i e hR hV he hf =>
            subst hR
            rw [hV.ok] at HHD
            have HOC := hid (fun W (hW : Below g w W) => routcomes_c H hV _ _ W.heap.size W (HRA.out W hW))
            have HFO := hid (fun W (hW : Below g w W) => rfollow_c H hV _ _ Cs _ HCP.out (by rw [HN0.out]; omega) W.heap.size W (HRA.out W hW) (HCA.out W hW))
            have HCO := hid (fun W (hW : Below g w W) => rcomplete_c H hV _ _ Cs _ HCP.out (by rw [HN0.out]; omega) W.heap.size W (HRA.out W hW) (HCA.out W hW))
            have hoo : (((outsN H : Nat) : Int) != ((outsN H : Nat) : Int)) = false := by simp
            have hful : fulN H (beginS H) Cs = .bad i e := by unfold fulN; rw [hf]
            simp only [hf, folR] at HFO
            simp only [hful, folR] at HCO
            have q1 : (((e : Nat) : Int) == 0) = false := by simp; omega
            have q2 : (((e : Nat) : Int) != 0) = true := by simp; omega
            have q3 : (((e : Nat) : Int) != ((e : Nat) : Int)) = false := by simp
            have q4 : (((i : Nat) : Int) != ((i : Nat) : Int)) = false := by simp
            have q5 : (((e : Nat) : Int) == ((e : Nat) : Int)) = true := by simp
            have q6 : (((i : Nat) : Int) == ((i : Nat) : Int)) = true := by simp
            have heq : ∀ W, (Op.equalIn 10000 62 (.agg #[.int .i64 (0), .int .i64 (0)]) (.agg #[.int .i64 (0), .int .i64 (0)])).run Try.prog W = .ok true W := fun W => by rw [eqChance]; simp
            clear hf hful he
            go_wp2_with (first
              | (refine wpList_value rfl (by intro c hc; cases hc) (.agg (handR (rawOf H) (.slice pf F cf) (.slice pc C cc))) (exec_ldR rfl rfl HIR.out.hx) ?_)
              | (refine wpList_value rfl (by intro c hc; cases hc) (.agg (handR (rawOf H) (.slice pf F cf) (.slice pc C cc))) (exec_ldR rfl rfl HIH.out.hx) ?_)
              | (refine wpList_value rfl (by intro c hc; cases hc) (.agg (handR (rawOf H) (.slice pf F cf) (.slice pc C cc))) (exec_ldR rfl rfl HIO.out.hx) ?_)
              | (refine wpList_value rfl (by intro c hc; cases hc) (.agg (handR (rawOf H) (.slice pf F cf) (.slice pc C cc))) (exec_ldR rfl rfl HIF.out.hx) ?_)
              | (go_at_call 13; refine (HHD.out wr HIR.out.bel).mono ?_; rintro e wH ⟨rfl, hbh⟩; have HIH := hid (HIR.out.below hbh); have HYH := hid (heap_below hbh HYR.out (heap_lt HYR.out)); have ⟨g0, g1, g2, g3, g4, g5, g6, g7⟩ := cells8 HIH.out.hx; have cy0 : wH.cell? ⟨y, 0, none⟩ = some (.int .i64 (0)) := cell_of_row wH y 0 _ _ _ HYH.out; have cy1 : wH.cell? ⟨y, 1, none⟩ = some (.int .i64 (0)) := cell_of_row wH y 1 _ _ _ HYH.out; clear hbh)
              | (go_at_call 22; refine (HOC.out wH HIH.out.bel).mono ?_; rintro e wO ⟨rfl, hbq⟩; have HIO := hid (HIH.out.below hbq); have HYO := hid (heap_below hbq HYH.out (heap_lt HYH.out)); clear g0 g1 g2 g3 g4 g5 g6 g7 cy0 cy1; have ⟨g0, g1, g2, g3, g4, g5, g6, g7⟩ := cells8 HIO.out.hx; have cy0 : wO.cell? ⟨y, 0, none⟩ = some (.int .i64 (0)) := cell_of_row wO y 0 _ _ _ HYO.out; have cy1 : wO.cell? ⟨y, 1, none⟩ = some (.int .i64 (0)) := cell_of_row wO y 1 _ _ _ HYO.out; clear hbq)
              | (go_at_call 34; refine (HFO.out wO HIO.out.bel).mono ?_; rintro e wF ⟨rfl, hbq⟩; have HIF := hid (HIO.out.below hbq); have HYF := hid (heap_below hbq HYO.out (heap_lt HYO.out)); clear g0 g1 g2 g3 g4 g5 g6 g7 cy0 cy1; have ⟨g0, g1, g2, g3, g4, g5, g6, g7⟩ := cells8 HIF.out.hx; have cy0 : wF.cell? ⟨y, 0, none⟩ = some (.int .i64 (0)) := cell_of_row wF y 0 _ _ _ HYF.out; have cy1 : wF.cell? ⟨y, 1, none⟩ = some (.int .i64 (0)) := cell_of_row wF y 1 _ _ _ HYF.out; clear hbq)
              | (go_at_call 31; refine (HCO.out wF HIF.out.bel).mono ?_; rintro e wC ⟨rfl, hbq⟩; have HIC := hid (HIF.out.below hbq); have HYC := hid (heap_below hbq HYF.out (heap_lt HYF.out)); clear g0 g1 g2 g3 g4 g5 g6 g7 cy0 cy1; have ⟨g0, g1, g2, g3, g4, g5, g6, g7⟩ := cells8 HIC.out.hx; have cy0 : wC.cell? ⟨y, 0, none⟩ = some (.int .i64 (0)) := cell_of_row wC y 0 _ _ _ HYC.out; have cy1 : wC.cell? ⟨y, 1, none⟩ = some (.int .i64 (0)) := cell_of_row wC y 1 _ _ _ HYC.out; clear hbq)
              | (go_at_call 12; refine (known_c _).mono ?_; rintro e wK ⟨rfl, hbk⟩; have HIK := hid (HIC.out.below hbk)))
            go_ret
            exact ⟨rfl, by rw [hg]; exact HIK.out.bel⟩
          | early H t hR hV hf h0 =>
            subst hR
            rw [hV.ok] at HHD
            have HOC := hid (fun W (hW : Below g w W) => routcomes_c H hV _ _ W.heap.size W (HRA.out W hW))
            have HFO := hid (fun W (hW : Below g w W) => rfollow_c H hV _ _ Cs _ HCP.out (by rw [HN0.out]; omega) W.heap.size W (HRA.out W hW) (HCA.out W hW))
            have HCO := hid (fun W (hW : Below g w W) => rcomplete_c H hV _ _ Cs _ HCP.out (by rw [HN0.out]; omega) W.heap.size W (HRA.out W hW) (HCA.out W hW))
            have hoo : (((outsN H : Nat) : Int) != ((outsN H : Nat) : Int)) = false := by simp
            obtain ⟨xs, hxs⟩ := fol_nat H _ _ _ _ hf
            have hrn : runN H (beginS H) xs = some t := by rw [hxs] at hf; exact (fol_run H _ _ _ _).1 hf
            have HCH := hid (fun W (hW : Below g w W) => rchoices_c H hV _ _ xs _ t hrn W.heap.size W (HRA.out W hW) (hxs ▸ HCA.out W hW))
            have hful : fulN H (beginS H) Cs = .bad Cs.length 7 := by unfold fulN; rw [hf]; simp only [if_neg h0]
            simp only [hf, folR] at HFO
            simp only [hful, folR] at HCO
            rw [HN0.out] at HCO ⊢
            have q1 : (((chN H t : Nat) : Int) != ((chN H t : Nat) : Int)) = false := by simp
            have q4 : (((n0 : Nat) : Int) != ((n0 : Nat) : Int)) = false := by simp
            have q6 : (((n0 : Nat) : Int) == ((n0 : Nat) : Int)) = true := by simp
            have heq : ∀ W, (Op.equalIn 10000 62 (.agg #[.int .i64 (0), .int .i64 (0)]) (.agg #[.int .i64 (0), .int .i64 (0)])).run Try.prog W = .ok true W := fun W => by rw [eqChance]; simp
            clear hf hful h0 hxs hrn
            go_wp2_with (first
              | (refine wpList_value rfl (by intro c hc; cases hc) (.agg (handR (rawOf H) (.slice pf F cf) (.slice pc C cc))) (exec_ldR rfl rfl HIR.out.hx) ?_)
              | (refine wpList_value rfl (by intro c hc; cases hc) (.agg (handR (rawOf H) (.slice pf F cf) (.slice pc C cc))) (exec_ldR rfl rfl HIH.out.hx) ?_)
              | (refine wpList_value rfl (by intro c hc; cases hc) (.agg (handR (rawOf H) (.slice pf F cf) (.slice pc C cc))) (exec_ldR rfl rfl HIO.out.hx) ?_)
              | (refine wpList_value rfl (by intro c hc; cases hc) (.agg (handR (rawOf H) (.slice pf F cf) (.slice pc C cc))) (exec_ldR rfl rfl HIF.out.hx) ?_)
              | (refine wpList_value rfl (by intro c hc; cases hc) (.agg (handR (rawOf H) (.slice pf F cf) (.slice pc C cc))) (exec_ldR rfl rfl HIC.out.hx) ?_)
              | (refine wpList_value rfl (by intro c hc; cases hc) (.agg (handR (rawOf H) (.slice pf F cf) (.slice pc C cc))) (exec_ldR rfl rfl HIX.out.hx) ?_)
              | (go_at_call 13; refine (HHD.out wr HIR.out.bel).mono ?_; rintro e wH ⟨rfl, hbh⟩; have HIH := hid (HIR.out.below hbh); have HYH := hid (heap_below hbh HYR.out (heap_lt HYR.out)); have ⟨g0, g1, g2, g3, g4, g5, g6, g7⟩ := cells8 HIH.out.hx; have cy0 : wH.cell? ⟨y, 0, none⟩ = some (.int .i64 (0)) := cell_of_row wH y 0 _ _ _ HYH.out; have cy1 : wH.cell? ⟨y, 1, none⟩ = some (.int .i64 (0)) := cell_of_row wH y 1 _ _ _ HYH.out; clear hbh)
              | (go_at_call 22; refine (HOC.out wH HIH.out.bel).mono ?_; rintro e wO ⟨rfl, hbq⟩; have HIO := hid (HIH.out.below hbq); have HYO := hid (heap_below hbq HYH.out (heap_lt HYH.out)); clear g0 g1 g2 g3 g4 g5 g6 g7 cy0 cy1; have ⟨g0, g1, g2, g3, g4, g5, g6, g7⟩ := cells8 HIO.out.hx; have cy0 : wO.cell? ⟨y, 0, none⟩ = some (.int .i64 (0)) := cell_of_row wO y 0 _ _ _ HYO.out; have cy1 : wO.cell? ⟨y, 1, none⟩ = some (.int .i64 (0)) := cell_of_row wO y 1 _ _ _ HYO.out; clear hbq)
              | (go_at_call 34; refine (HFO.out wO HIO.out.bel).mono ?_; rintro e wF ⟨rfl, hbq⟩; have HIF := hid (HIO.out.below hbq); have HYF := hid (heap_below hbq HYO.out (heap_lt HYO.out)); clear g0 g1 g2 g3 g4 g5 g6 g7 cy0 cy1; have ⟨g0, g1, g2, g3, g4, g5, g6, g7⟩ := cells8 HIF.out.hx; have cy0 : wF.cell? ⟨y, 0, none⟩ = some (.int .i64 (0)) := cell_of_row wF y 0 _ _ _ HYF.out; have cy1 : wF.cell? ⟨y, 1, none⟩ = some (.int .i64 (0)) := cell_of_row wF y 1 _ _ _ HYF.out; clear hbq)
              | (go_at_call 35; refine (HCH.out wF HIF.out.bel).mono ?_; rintro e wX ⟨rfl, hbq⟩; have HIX := hid (HIF.out.below hbq); have HYX := hid (heap_below hbq HYF.out (heap_lt HYF.out)); clear g0 g1 g2 g3 g4 g5 g6 g7 cy0 cy1; have ⟨g0, g1, g2, g3, g4, g5, g6, g7⟩ := cells8 HIX.out.hx; have cy0 : wX.cell? ⟨y, 0, none⟩ = some (.int .i64 (0)) := cell_of_row wX y 0 _ _ _ HYX.out; have cy1 : wX.cell? ⟨y, 1, none⟩ = some (.int .i64 (0)) := cell_of_row wX y 1 _ _ _ HYX.out; clear hbq)
              | (go_at_call 31; refine (HCO.out wX HIX.out.bel).mono ?_; rintro e wC ⟨rfl, hbq⟩; have HIC := hid (HIX.out.below hbq); have HYC := hid (heap_below hbq HYX.out (heap_lt HYX.out)); clear g0 g1 g2 g3 g4 g5 g6 g7 cy0 cy1; have ⟨g0, g1, g2, g3, g4, g5, g6, g7⟩ := cells8 HIC.out.hx; have cy0 : wC.cell? ⟨y, 0, none⟩ = some (.int .i64 (0)) := cell_of_row wC y 0 _ _ _ HYC.out; have cy1 : wC.cell? ⟨y, 1, none⟩ = some (.int .i64 (0)) := cell_of_row wC y 1 _ _ _ HYC.out; clear hbq)
              | (go_at_call 12; refine (known_c _).mono ?_; rintro e wK ⟨rfl, hbk⟩; have HIK := hid (HIC.out.below hbk)))
            go_ret
            exact ⟨rfl, by rw [hg]; exact HIK.out.bel⟩
          | whole H t d hR hV hf h0 hdd hd =>
            subst hR
            rw [hV.ok] at HHD
            have HOC := hid (fun W (hW : Below g w W) => routcomes_c H hV _ _ W.heap.size W (HRA.out W hW))
            have HFO := hid (fun W (hW : Below g w W) => rfollow_c H hV _ _ Cs _ HCP.out (by rw [HN0.out]; omega) W.heap.size W (HRA.out W hW) (HCA.out W hW))
            have HCO := hid (fun W (hW : Below g w W) => rcomplete_c H hV _ _ Cs _ HCP.out (by rw [HN0.out]; omega) W.heap.size W (HRA.out W hW) (HCA.out W hW))
            have hoo : (((outsN H : Nat) : Int) != ((outsN H : Nat) : Int)) = false := by simp
            obtain ⟨xs, hxs⟩ := fol_nat H _ _ _ _ hf
            have hrn : runN H (beginS H) xs = some t := by rw [hxs] at hf; exact (fol_run H _ _ _ _).1 hf
            have HCH := hid (fun W (hW : Below g w W) => rchoices_c H hV _ _ xs _ t hrn W.heap.size W (HRA.out W hW) (hxs ▸ HCA.out W hW))
            have hful : fulN H (beginS H) Cs = .ok t := by unfold fulN; rw [hf]; simp only [if_pos h0]
            simp only [hf, folR] at HFO
            simp only [hful, folR] at HCO
            have HCH := hid (fun W (hW : Below g w W) => (show Calls Try.prog 35 #[.agg (handR (rawOf H) (.slice pf F cf) (.slice pc C cc)), .slice pu n0 cu] W fun e w' => e = .returned (.int .i64 0) ∧ Below W.heap.size W w' from (HCH.out W hW).mono (by rintro e w' ⟨rfl, hb⟩; exact ⟨by rw [h0]; rfl, hb⟩)))
            have hnx : xs.length = n0 := by rw [← HN0.out, hxs, List.length_map]
            have HKP := hid (⟨hxs, hrn, h0, hdd, hd, hnx⟩ : Cs = xs.map (fun c => ((c : Nat) : Int)) ∧ runN H (beginS H) xs = some t ∧ chN H t = 0 ∧ d = denT H (trN H (beginS H) Cs) ∧ _ ∧ xs.length = n0)
            have qo : ((outN H t) != (outN H t)) = false := by simp
            have heq : ∀ W, (Op.equalIn 10000 62 (.agg #[.int .i64 (1), .int .i64 (((d : Nat) : Int))]) (.agg #[.int .i64 (1), .int .i64 (((d : Nat) : Int))])).run Try.prog W = .ok true W := fun W => by rw [eqChance]; simp
            clear hf hful h0 hxs hrn hnx hdd hd
            go_upto_region 26 with (first
              | (refine wpList_value rfl (by intro c hc; cases hc) (.agg (handR (rawOf H) (.slice pf F cf) (.slice pc C cc))) (exec_ldR rfl rfl HIR.out.hx) ?_)
              | (refine wpList_value rfl (by intro c hc; cases hc) (.agg (handR (rawOf H) (.slice pf F cf) (.slice pc C cc))) (exec_ldR rfl rfl HIH.out.hx) ?_)
              | (refine wpList_value rfl (by intro c hc; cases hc) (.agg (handR (rawOf H) (.slice pf F cf) (.slice pc C cc))) (exec_ldR rfl rfl HIO.out.hx) ?_)
              | (refine wpList_value rfl (by intro c hc; cases hc) (.agg (handR (rawOf H) (.slice pf F cf) (.slice pc C cc))) (exec_ldR rfl rfl HIF.out.hx) ?_)
              | (refine wpList_value rfl (by intro c hc; cases hc) (.agg (handR (rawOf H) (.slice pf F cf) (.slice pc C cc))) (exec_ldR rfl rfl HIC.out.hx) ?_)
              | (refine wpList_value rfl (by intro c hc; cases hc) (.agg (handR (rawOf H) (.slice pf F cf) (.slice pc C cc))) (exec_ldR rfl rfl HIX.out.hx) ?_)
              | (go_at_call 13; refine (HHD.out wr HIR.out.bel).mono ?_; rintro e wH ⟨rfl, hbh⟩; have HIH := hid (HIR.out.below hbh); have HYH := hid (heap_below hbh HYR.out (heap_lt HYR.out)); have ⟨g0, g1, g2, g3, g4, g5, g6, g7⟩ := cells8 HIH.out.hx; have cy0 : wH.cell? ⟨y, 0, none⟩ = some (.int .i64 (1)) := cell_of_row wH y 0 _ _ _ HYH.out; have cy1 : wH.cell? ⟨y, 1, none⟩ = some (.int .i64 (((d : Nat) : Int))) := cell_of_row wH y 1 _ _ _ HYH.out; clear hbh)
              | (go_at_call 22; refine (HOC.out wH HIH.out.bel).mono ?_; rintro e wO ⟨rfl, hbq⟩; have HIO := hid (HIH.out.below hbq); have HYO := hid (heap_below hbq HYH.out (heap_lt HYH.out)); clear g0 g1 g2 g3 g4 g5 g6 g7 cy0 cy1; have ⟨g0, g1, g2, g3, g4, g5, g6, g7⟩ := cells8 HIO.out.hx; have cy0 : wO.cell? ⟨y, 0, none⟩ = some (.int .i64 (1)) := cell_of_row wO y 0 _ _ _ HYO.out; have cy1 : wO.cell? ⟨y, 1, none⟩ = some (.int .i64 (((d : Nat) : Int))) := cell_of_row wO y 1 _ _ _ HYO.out; clear hbq)
              | (go_at_call 34; refine (HFO.out wO HIO.out.bel).mono ?_; rintro e wF ⟨rfl, hbq⟩; have HIF := hid (HIO.out.below hbq); have HYF := hid (heap_below hbq HYO.out (heap_lt HYO.out)); clear g0 g1 g2 g3 g4 g5 g6 g7 cy0 cy1; have ⟨g0, g1, g2, g3, g4, g5, g6, g7⟩ := cells8 HIF.out.hx; have cy0 : wF.cell? ⟨y, 0, none⟩ = some (.int .i64 (1)) := cell_of_row wF y 0 _ _ _ HYF.out; have cy1 : wF.cell? ⟨y, 1, none⟩ = some (.int .i64 (((d : Nat) : Int))) := cell_of_row wF y 1 _ _ _ HYF.out; clear hbq)
              | (go_at_call 35; refine (HCH.out wF HIF.out.bel).mono ?_; rintro e wX ⟨rfl, hbq⟩; have HIX := hid (HIF.out.below hbq); have HYX := hid (heap_below hbq HYF.out (heap_lt HYF.out)); clear g0 g1 g2 g3 g4 g5 g6 g7 cy0 cy1; have ⟨g0, g1, g2, g3, g4, g5, g6, g7⟩ := cells8 HIX.out.hx; have cy0 : wX.cell? ⟨y, 0, none⟩ = some (.int .i64 (1)) := cell_of_row wX y 0 _ _ _ HYX.out; have cy1 : wX.cell? ⟨y, 1, none⟩ = some (.int .i64 (((d : Nat) : Int))) := cell_of_row wX y 1 _ _ _ HYX.out; clear hbq)
              | (go_at_call 31; refine (HCO.out wX HIX.out.bel).mono ?_; rintro e wC ⟨rfl, hbq⟩; have HIC := hid (HIX.out.below hbq); have HYC := hid (heap_below hbq HYX.out (heap_lt HYX.out)); clear g0 g1 g2 g3 g4 g5 g6 g7 cy0 cy1; have ⟨g0, g1, g2, g3, g4, g5, g6, g7⟩ := cells8 HIC.out.hx; have cy0 : wC.cell? ⟨y, 0, none⟩ = some (.int .i64 (1)) := cell_of_row wC y 0 _ _ _ HYC.out; have cy1 : wC.cell? ⟨y, 1, none⟩ = some (.int .i64 (((d : Nat) : Int))) := cell_of_row wC y 1 _ _ _ HYC.out; clear hbq))
            clear g0 g1 g2 g3 g4 g5 g6 g7 cy0 cy1 HIR HIH HIO HIF HIX HYR HYH HYO HYF HYX
            go_wp2_with fail
            obtain ⟨hxs, hrn, h0, hdd, hd, hnx⟩ := HKP.out
            have hdp := end_dep0 H hV xs t hrn h0
            have HOU := hid (fun W (hW : Below g w W) => routcome_c H hV _ _ xs _ t hrn hdp W.heap.size W (HRA.out W hW) (hxs ▸ HCA.out W hW))
            obtain ⟨DK, hDK⟩ : ∃ DK : Nat → Nat, (fun k => denT H (trN H (beginS H) ((xs.take k).map fun c => ((c : Nat) : Int)))) = DK := ⟨_, rfl⟩
            have hDK0 : DK 0 = 1 := by rw [← hDK]; simp [trN, denT, prodL, satN]
            have HDN := hid (show DK n0 = d from by rw [← hDK, ← hnx]; simp only [List.take_length]; rw [hdd, hxs])
            have HST := hid (show ∀ k, k < n0 → ∃ u, runN H (beginS H) (xs.take k) = some u ∧ DK (k + 1) = timesN (DK k) (chN H u) ∧ chN H u ≤ 20000 from fun k hk => by
              rw [← hDK]
              exact den_steps H hV.hand.ok xs t hrn k (by omega))
            have HCK := hid (fun k (hk : k ≤ n0) (u : St) (hu : runN H (beginS H) (xs.take k) = some u) W (hW : Below g w W) => rchoices_c H hV _ _ (xs.take k) (.slice pu k cu) u hu W.heap.size W (HRA.out W hW) (by
              have h := (HCA.out W hW).part k (by rw [HN0.out]; exact hk)
              rw [hxs, ← List.map_take] at h
              exact h))
            have HDD := hid hd
            have HDK0 := hid hDK0
            clear h0 hxs hrn hdp hnx hDK hdd hd hDK0 HKP
            go_loopw [22, 23] (fun dv ix wr' => ∃ k : Nat, k ≤ n0 ∧ ix = .int .i64 ((k : Nat) : Int) ∧ dv = .int .i64 ((DK k : Nat) : Int) ∧ DK k ≤ 1000000000000001 ∧ Below wC.heap.size wC wr') (fun _ ix _ => n0 - (intOf ix).toNat)
            case atStart => exact ⟨0, by omega, rfl, by rw [HDK0.out]; rfl, by rw [HDK0.out]; omega, Below.refl _ _⟩
            case round =>
              obtain ⟨k, hk, rfl, rfl, hDk, hB⟩ := hrel
              have hIL := HIC.out.below hB
              have hYL := heap_below hB HYC.out (heap_lt HYC.out)
              rcases Nat.lt_or_ge k n0 with hlt | hge
              · have hin : decide (((k : Nat) : Int) < ((n0 : Nat) : Int)) = true := decide_eq_true (by omega)
                have hin' : ((k : Nat) : Int) < ((n0 : Nat) : Int) := by omega
                have hiw : IntKind.i64.wrap (((k : Nat) : Int) + 1) = ((k + 1 : Nat) : Int) := (IntWalk.i64_in _ (by omega)).trans (by omega)
                obtain ⟨u, hu, hs, hu2⟩ := HST.out k hlt
                have HCU := hid (HCK.out k (by omega) u hu)
                obtain ⟨b, o, hpu⟩ : ∃ b o, pu = some ⟨b, o, none⟩ := by
                  obtain ⟨p', c', hv', hcs⟩ := (HCA.out w (by rw [← hg]; exact Below.refl _ _)).at'
                  injection hv' with ep _ _
                  subst ep
                  obtain ⟨b, o, hb, _⟩ := hcs k (by rw [HN0.out]; exact hlt)
                  exact ⟨b, o, hb⟩
                subst hpu
                have hcu := HCP.out _ _ _ rfl
                have hkk : k ≤ cu := by omega
                have hk0 : 0 < cu := by omega
                have hle := timesN_le (DK k) (chN H u)
                rw [← hs] at hle
                obtain ⟨M, hM⟩ : ∃ M, DK (k + 1) = M := ⟨_, rfl⟩
                rw [hM] at hs hle
                obtain ⟨m, hmm⟩ : ∃ m, chN H u = m := ⟨_, rfl⟩
                rw [hmm] at hs hu2 HCU
                have HTM := hid (fun W => rtimes_c (DK k) m (by omega) (by omega) W)
                rw [← hs] at HTM
                obtain ⟨D, hD⟩ : ∃ D, DK k = D := ⟨_, rfl⟩
                rw [hD] at HTM hDk ⊢
                have HIL := hid hIL
                have HM := hid hM
                clear hs hM hmm hD hu hIL hYL
                go_upto_region 30 with fail
                have hS0 : Below wr.heap.size wr wr.drew := ⟨rfl, rfl, rfl, Nat.le_refl _, fun _ _ => rfl⟩
                refine regD (fun Y => Below wr.heap.size wr Y) (fun _ => true) (by kernel_rfl) ?_
                refine takeE (i := 0) (.int .i64 ((D : Nat) : Int)) (d := some 249) rfl (by kernel_rfl) (by kernel_rfl) (by kernel_rfl) (by kernel_rfl) (fun _ _ _ h => h) rfl (fun Y hY => by exact rfl) hS0 rfl ?_
                simp only [Act.put, List.setIfInBounds_toArray, List.set_cons_zero, List.set_cons_succ]
                refine takeE (i := 1) (.agg (handR (rawOf H) (.slice pf F cf) (.slice pc C cc))) (d := some 250) rfl (by kernel_rfl) (by kernel_rfl) (by kernel_rfl) (by kernel_rfl) (fun _ _ _ h => h) rfl (fun Y hY => by exact exec_ldR rfl rfl (heap_below hY HIL.out.hx (heap_lt HIL.out.hx))) hS0 rfl ?_
                simp only [Act.put, List.setIfInBounds_toArray, List.set_cons_zero, List.set_cons_succ]
                refine takeE (i := 2) (.slice (some ⟨b, o, none⟩) n0 cu) (d := some 251) rfl (by kernel_rfl) (by kernel_rfl) (by kernel_rfl) (by kernel_rfl) (fun _ _ _ h => h) rfl (fun Y hY => by exact rfl) hS0 rfl ?_
                simp only [Act.put, List.setIfInBounds_toArray, List.set_cons_zero, List.set_cons_succ]
                refine takeE (i := 3) (.int .i64 ((k : Nat) : Int)) (d := some 252) rfl (by kernel_rfl) (by kernel_rfl) (by kernel_rfl) (by kernel_rfl) (fun _ _ _ h => h) rfl (fun Y hY => by exact rfl) hS0 rfl ?_
                simp only [Act.put, List.setIfInBounds_toArray, List.set_cons_zero, List.set_cons_succ]
                refine takeE (i := 4) (.slice (some ⟨b, o, none⟩) k cu) (d := some 253) rfl (by kernel_rfl) (by kernel_rfl) (by kernel_rfl) (by kernel_rfl) (fun _ _ _ h => h) rfl (fun Y hY => by exact exec_slcA rfl rfl rfl hkk hk0 rfl) hS0 rfl ?_
                simp only [Act.put, List.setIfInBounds_toArray, List.set_cons_zero, List.set_cons_succ]
                refine stepD 5 (by kernel_rfl) rfl rfl (fun K hK => ?_)
                go_simp
                go_at_call 35
                refine (HCU.out _ (HIL.out.bel.trans (hS0.mono (Nat.le_of_lt (heap_lt HIL.out.hx))))).mono ?_
                rintro e w2 ⟨rfl, hb2⟩
                have hS0 : Below wr.heap.size wr w2 := hS0.trans hb2
                go_simp
                refine hK _ _ (fun _ => hS0) ?_
                clear hK K hb2
                refine stepD 6 (by kernel_rfl) rfl rfl (fun K hK => ?_)
                go_simp
                go_at_call 36
                refine (HTM.out _).mono ?_
                rintro e w3 ⟨rfl, rfl⟩
                go_simp
                refine hK _ _ (fun _ => hS0) ?_
                clear hK K
                refine stepD 7 (by kernel_rfl) rfl rfl (fun K hK => ?_)
                go_simp
                refine hK _ _ (fun _ => hS0) ?_
                clear hK K
                refine doneD (by kernel_rfl) ?_ _
                refine OnlyNorm.normal ?_
                have HSS := hid (hB.trans (hS0.mono hB.size))
                clear hB hS0
                go_wp2_with fail
                go_roundw
                case rel => exact ⟨k + 1, by omega, rfl, by rw [HM.out], by rw [HM.out]; exact hle, HSS.out⟩
                case measure => simp only [intOf, Int.toNat_natCast]; omega
              · have e : k = n0 := by omega
                subst e
                have hin : decide (((k : Nat) : Int) < ((k : Nat) : Int)) = false := decide_eq_false (by omega)
                rw [HDN.out] at hDk ⊢
                have HIL := hid hIL
                have HYL := hid hYL
                have ⟨g0, g1, g2, g3, g4, g5, g6, g7⟩ := cells8 hIL.hx
                have cy0 : wr.cell? ⟨y, 0, none⟩ = some (.int .i64 (1)) := cell_of_row wr y 0 _ _ _ hYL
                have cy1 : wr.cell? ⟨y, 1, none⟩ = some (.int .i64 (((d : Nat) : Int))) := cell_of_row wr y 1 _ _ _ hYL
                have hdb : decide ((1000000000000000 : Int) < ((d : Nat) : Int)) = false := decide_eq_false (by have := HDD.out; omega)
                have hdb' : ¬ ((1000000000000000 : Int) < ((d : Nat) : Int)) := by have := HDD.out; omega
                clear hIL hYL hB
                go_wp2_with (first
              | (refine wpList_value rfl (by intro c hc; cases hc) (.agg (handR (rawOf H) (.slice pf F cf) (.slice pc C cc))) (exec_ldR rfl rfl HIL.out.hx) ?_)
              | (go_at_call 23; refine (HOU.out wr HIL.out.bel).mono ?_; rintro e wQ ⟨rfl, hbq⟩; have HIQ := hid (HIL.out.below hbq); have HYQ := hid (heap_below hbq HYL.out (heap_lt HYL.out)); clear g0 g1 g2 g3 g4 g5 g6 g7 cy0 cy1; have ⟨g0, g1, g2, g3, g4, g5, g6, g7⟩ := cells8 HIQ.out.hx; have cy0 : wQ.cell? ⟨y, 0, none⟩ = some (.int .i64 (1)) := cell_of_row wQ y 0 _ _ _ HYQ.out; have cy1 : wQ.cell? ⟨y, 1, none⟩ = some (.int .i64 (((d : Nat) : Int))) := cell_of_row wQ y 1 _ _ _ HYQ.out; clear hbq)
              | (go_at_call 12; refine (known_c _).mono ?_; rintro e wK ⟨rfl, hbk⟩; have HIK := hid (HIQ.out.below hbk)))
                go_ret
                exact ⟨rfl, by rw [hg]; exact HIK.out.bel⟩
          | full H t d hR hV hf h0 hdd hd =>
            subst hR
            rw [hV.ok] at HHD
            have HOC := hid (fun W (hW : Below g w W) => routcomes_c H hV _ _ W.heap.size W (HRA.out W hW))
            have HFO := hid (fun W (hW : Below g w W) => rfollow_c H hV _ _ Cs _ HCP.out (by rw [HN0.out]; omega) W.heap.size W (HRA.out W hW) (HCA.out W hW))
            have HCO := hid (fun W (hW : Below g w W) => rcomplete_c H hV _ _ Cs _ HCP.out (by rw [HN0.out]; omega) W.heap.size W (HRA.out W hW) (HCA.out W hW))
            have hoo : (((outsN H : Nat) : Int) != ((outsN H : Nat) : Int)) = false := by simp
            obtain ⟨xs, hxs⟩ := fol_nat H _ _ _ _ hf
            have hrn : runN H (beginS H) xs = some t := by rw [hxs] at hf; exact (fol_run H _ _ _ _).1 hf
            have HCH := hid (fun W (hW : Below g w W) => rchoices_c H hV _ _ xs _ t hrn W.heap.size W (HRA.out W hW) (hxs ▸ HCA.out W hW))
            have hful : fulN H (beginS H) Cs = .ok t := by unfold fulN; rw [hf]; simp only [if_pos h0]
            simp only [hf, folR] at HFO
            simp only [hful, folR] at HCO
            have HCH := hid (fun W (hW : Below g w W) => (show Calls Try.prog 35 #[.agg (handR (rawOf H) (.slice pf F cf) (.slice pc C cc)), .slice pu n0 cu] W fun e w' => e = .returned (.int .i64 0) ∧ Below W.heap.size W w' from (HCH.out W hW).mono (by rintro e w' ⟨rfl, hb⟩; exact ⟨by rw [h0]; rfl, hb⟩)))
            have hnx : xs.length = n0 := by rw [← HN0.out, hxs, List.length_map]
            have HKP := hid (⟨hxs, hrn, h0, hdd, hd, hnx⟩ : Cs = xs.map (fun c => ((c : Nat) : Int)) ∧ runN H (beginS H) xs = some t ∧ chN H t = 0 ∧ d = denT H (trN H (beginS H) Cs) ∧ _ ∧ xs.length = n0)
            have qo : ((outN H t) != (outN H t)) = false := by simp
            have heq : ∀ W, (Op.equalIn 10000 62 (.agg #[.int .i64 (0), .int .i64 (0)]) (.agg #[.int .i64 (0), .int .i64 (0)])).run Try.prog W = .ok true W := fun W => by rw [eqChance]; simp
            clear hf hful h0 hxs hrn hnx hdd hd
            go_upto_region 26 with (first
              | (refine wpList_value rfl (by intro c hc; cases hc) (.agg (handR (rawOf H) (.slice pf F cf) (.slice pc C cc))) (exec_ldR rfl rfl HIR.out.hx) ?_)
              | (refine wpList_value rfl (by intro c hc; cases hc) (.agg (handR (rawOf H) (.slice pf F cf) (.slice pc C cc))) (exec_ldR rfl rfl HIH.out.hx) ?_)
              | (refine wpList_value rfl (by intro c hc; cases hc) (.agg (handR (rawOf H) (.slice pf F cf) (.slice pc C cc))) (exec_ldR rfl rfl HIO.out.hx) ?_)
              | (refine wpList_value rfl (by intro c hc; cases hc) (.agg (handR (rawOf H) (.slice pf F cf) (.slice pc C cc))) (exec_ldR rfl rfl HIF.out.hx) ?_)
              | (refine wpList_value rfl (by intro c hc; cases hc) (.agg (handR (rawOf H) (.slice pf F cf) (.slice pc C cc))) (exec_ldR rfl rfl HIC.out.hx) ?_)
              | (refine wpList_value rfl (by intro c hc; cases hc) (.agg (handR (rawOf H) (.slice pf F cf) (.slice pc C cc))) (exec_ldR rfl rfl HIX.out.hx) ?_)
              | (go_at_call 13; refine (HHD.out wr HIR.out.bel).mono ?_; rintro e wH ⟨rfl, hbh⟩; have HIH := hid (HIR.out.below hbh); have HYH := hid (heap_below hbh HYR.out (heap_lt HYR.out)); have ⟨g0, g1, g2, g3, g4, g5, g6, g7⟩ := cells8 HIH.out.hx; have cy0 : wH.cell? ⟨y, 0, none⟩ = some (.int .i64 (0)) := cell_of_row wH y 0 _ _ _ HYH.out; have cy1 : wH.cell? ⟨y, 1, none⟩ = some (.int .i64 (0)) := cell_of_row wH y 1 _ _ _ HYH.out; clear hbh)
              | (go_at_call 22; refine (HOC.out wH HIH.out.bel).mono ?_; rintro e wO ⟨rfl, hbq⟩; have HIO := hid (HIH.out.below hbq); have HYO := hid (heap_below hbq HYH.out (heap_lt HYH.out)); clear g0 g1 g2 g3 g4 g5 g6 g7 cy0 cy1; have ⟨g0, g1, g2, g3, g4, g5, g6, g7⟩ := cells8 HIO.out.hx; have cy0 : wO.cell? ⟨y, 0, none⟩ = some (.int .i64 (0)) := cell_of_row wO y 0 _ _ _ HYO.out; have cy1 : wO.cell? ⟨y, 1, none⟩ = some (.int .i64 (0)) := cell_of_row wO y 1 _ _ _ HYO.out; clear hbq)
              | (go_at_call 34; refine (HFO.out wO HIO.out.bel).mono ?_; rintro e wF ⟨rfl, hbq⟩; have HIF := hid (HIO.out.below hbq); have HYF := hid (heap_below hbq HYO.out (heap_lt HYO.out)); clear g0 g1 g2 g3 g4 g5 g6 g7 cy0 cy1; have ⟨g0, g1, g2, g3, g4, g5, g6, g7⟩ := cells8 HIF.out.hx; have cy0 : wF.cell? ⟨y, 0, none⟩ = some (.int .i64 (0)) := cell_of_row wF y 0 _ _ _ HYF.out; have cy1 : wF.cell? ⟨y, 1, none⟩ = some (.int .i64 (0)) := cell_of_row wF y 1 _ _ _ HYF.out; clear hbq)
              | (go_at_call 35; refine (HCH.out wF HIF.out.bel).mono ?_; rintro e wX ⟨rfl, hbq⟩; have HIX := hid (HIF.out.below hbq); have HYX := hid (heap_below hbq HYF.out (heap_lt HYF.out)); clear g0 g1 g2 g3 g4 g5 g6 g7 cy0 cy1; have ⟨g0, g1, g2, g3, g4, g5, g6, g7⟩ := cells8 HIX.out.hx; have cy0 : wX.cell? ⟨y, 0, none⟩ = some (.int .i64 (0)) := cell_of_row wX y 0 _ _ _ HYX.out; have cy1 : wX.cell? ⟨y, 1, none⟩ = some (.int .i64 (0)) := cell_of_row wX y 1 _ _ _ HYX.out; clear hbq)
              | (go_at_call 31; refine (HCO.out wX HIX.out.bel).mono ?_; rintro e wC ⟨rfl, hbq⟩; have HIC := hid (HIX.out.below hbq); have HYC := hid (heap_below hbq HYX.out (heap_lt HYX.out)); clear g0 g1 g2 g3 g4 g5 g6 g7 cy0 cy1; have ⟨g0, g1, g2, g3, g4, g5, g6, g7⟩ := cells8 HIC.out.hx; have cy0 : wC.cell? ⟨y, 0, none⟩ = some (.int .i64 (0)) := cell_of_row wC y 0 _ _ _ HYC.out; have cy1 : wC.cell? ⟨y, 1, none⟩ = some (.int .i64 (0)) := cell_of_row wC y 1 _ _ _ HYC.out; clear hbq))
            clear g0 g1 g2 g3 g4 g5 g6 g7 cy0 cy1 HIR HIH HIO HIF HIX HYR HYH HYO HYF HYX
            go_wp2_with fail
            obtain ⟨hxs, hrn, h0, hdd, hd, hnx⟩ := HKP.out
            have hdp := end_dep0 H hV xs t hrn h0
            have HOU := hid (fun W (hW : Below g w W) => routcome_c H hV _ _ xs _ t hrn hdp W.heap.size W (HRA.out W hW) (hxs ▸ HCA.out W hW))
            obtain ⟨DK, hDK⟩ : ∃ DK : Nat → Nat, (fun k => denT H (trN H (beginS H) ((xs.take k).map fun c => ((c : Nat) : Int)))) = DK := ⟨_, rfl⟩
            have hDK0 : DK 0 = 1 := by rw [← hDK]; simp [trN, denT, prodL, satN]
            have HDN := hid (show DK n0 = d from by rw [← hDK, ← hnx]; simp only [List.take_length]; rw [hdd, hxs])
            have HST := hid (show ∀ k, k < n0 → ∃ u, runN H (beginS H) (xs.take k) = some u ∧ DK (k + 1) = timesN (DK k) (chN H u) ∧ chN H u ≤ 20000 from fun k hk => by
              rw [← hDK]
              exact den_steps H hV.hand.ok xs t hrn k (by omega))
            have HCK := hid (fun k (hk : k ≤ n0) (u : St) (hu : runN H (beginS H) (xs.take k) = some u) W (hW : Below g w W) => rchoices_c H hV _ _ (xs.take k) (.slice pu k cu) u hu W.heap.size W (HRA.out W hW) (by
              have h := (HCA.out W hW).part k (by rw [HN0.out]; exact hk)
              rw [hxs, ← List.map_take] at h
              exact h))
            have HDD := hid hd
            have HDK0 := hid hDK0
            clear h0 hxs hrn hdp hnx hDK hdd hd hDK0 HKP
            go_loopw [22, 23] (fun dv ix wr' => ∃ k : Nat, k ≤ n0 ∧ ix = .int .i64 ((k : Nat) : Int) ∧ dv = .int .i64 ((DK k : Nat) : Int) ∧ DK k ≤ 1000000000000001 ∧ Below wC.heap.size wC wr') (fun _ ix _ => n0 - (intOf ix).toNat)
            case atStart => exact ⟨0, by omega, rfl, by rw [HDK0.out]; rfl, by rw [HDK0.out]; omega, Below.refl _ _⟩
            case round =>
              obtain ⟨k, hk, rfl, rfl, hDk, hB⟩ := hrel
              have hIL := HIC.out.below hB
              have hYL := heap_below hB HYC.out (heap_lt HYC.out)
              rcases Nat.lt_or_ge k n0 with hlt | hge
              · have hin : decide (((k : Nat) : Int) < ((n0 : Nat) : Int)) = true := decide_eq_true (by omega)
                have hin' : ((k : Nat) : Int) < ((n0 : Nat) : Int) := by omega
                have hiw : IntKind.i64.wrap (((k : Nat) : Int) + 1) = ((k + 1 : Nat) : Int) := (IntWalk.i64_in _ (by omega)).trans (by omega)
                obtain ⟨u, hu, hs, hu2⟩ := HST.out k hlt
                have HCU := hid (HCK.out k (by omega) u hu)
                obtain ⟨b, o, hpu⟩ : ∃ b o, pu = some ⟨b, o, none⟩ := by
                  obtain ⟨p', c', hv', hcs⟩ := (HCA.out w (by rw [← hg]; exact Below.refl _ _)).at'
                  injection hv' with ep _ _
                  subst ep
                  obtain ⟨b, o, hb, _⟩ := hcs k (by rw [HN0.out]; exact hlt)
                  exact ⟨b, o, hb⟩
                subst hpu
                have hcu := HCP.out _ _ _ rfl
                have hkk : k ≤ cu := by omega
                have hk0 : 0 < cu := by omega
                have hle := timesN_le (DK k) (chN H u)
                rw [← hs] at hle
                obtain ⟨M, hM⟩ : ∃ M, DK (k + 1) = M := ⟨_, rfl⟩
                rw [hM] at hs hle
                obtain ⟨m, hmm⟩ : ∃ m, chN H u = m := ⟨_, rfl⟩
                rw [hmm] at hs hu2 HCU
                have HTM := hid (fun W => rtimes_c (DK k) m (by omega) (by omega) W)
                rw [← hs] at HTM
                obtain ⟨D, hD⟩ : ∃ D, DK k = D := ⟨_, rfl⟩
                rw [hD] at HTM hDk ⊢
                have HIL := hid hIL
                have HM := hid hM
                clear hs hM hmm hD hu hIL hYL
                go_upto_region 30 with fail
                have hS0 : Below wr.heap.size wr wr.drew := ⟨rfl, rfl, rfl, Nat.le_refl _, fun _ _ => rfl⟩
                refine regD (fun Y => Below wr.heap.size wr Y) (fun _ => true) (by kernel_rfl) ?_
                refine takeE (i := 0) (.int .i64 ((D : Nat) : Int)) (d := some 249) rfl (by kernel_rfl) (by kernel_rfl) (by kernel_rfl) (by kernel_rfl) (fun _ _ _ h => h) rfl (fun Y hY => by exact rfl) hS0 rfl ?_
                simp only [Act.put, List.setIfInBounds_toArray, List.set_cons_zero, List.set_cons_succ]
                refine takeE (i := 1) (.agg (handR (rawOf H) (.slice pf F cf) (.slice pc C cc))) (d := some 250) rfl (by kernel_rfl) (by kernel_rfl) (by kernel_rfl) (by kernel_rfl) (fun _ _ _ h => h) rfl (fun Y hY => by exact exec_ldR rfl rfl (heap_below hY HIL.out.hx (heap_lt HIL.out.hx))) hS0 rfl ?_
                simp only [Act.put, List.setIfInBounds_toArray, List.set_cons_zero, List.set_cons_succ]
                refine takeE (i := 2) (.slice (some ⟨b, o, none⟩) n0 cu) (d := some 251) rfl (by kernel_rfl) (by kernel_rfl) (by kernel_rfl) (by kernel_rfl) (fun _ _ _ h => h) rfl (fun Y hY => by exact rfl) hS0 rfl ?_
                simp only [Act.put, List.setIfInBounds_toArray, List.set_cons_zero, List.set_cons_succ]
                refine takeE (i := 3) (.int .i64 ((k : Nat) : Int)) (d := some 252) rfl (by kernel_rfl) (by kernel_rfl) (by kernel_rfl) (by kernel_rfl) (fun _ _ _ h => h) rfl (fun Y hY => by exact rfl) hS0 rfl ?_
                simp only [Act.put, List.setIfInBounds_toArray, List.set_cons_zero, List.set_cons_succ]
                refine takeE (i := 4) (.slice (some ⟨b, o, none⟩) k cu) (d := some 253) rfl (by kernel_rfl) (by kernel_rfl) (by kernel_rfl) (by kernel_rfl) (fun _ _ _ h => h) rfl (fun Y hY => by exact exec_slcA rfl rfl rfl hkk hk0 rfl) hS0 rfl ?_
                simp only [Act.put, List.setIfInBounds_toArray, List.set_cons_zero, List.set_cons_succ]
                refine stepD 5 (by kernel_rfl) rfl rfl (fun K hK => ?_)
                go_simp
                go_at_call 35
                refine (HCU.out _ (HIL.out.bel.trans (hS0.mono (Nat.le_of_lt (heap_lt HIL.out.hx))))).mono ?_
                rintro e w2 ⟨rfl, hb2⟩
                have hS0 : Below wr.heap.size wr w2 := hS0.trans hb2
                go_simp
                refine hK _ _ (fun _ => hS0) ?_
                clear hK K hb2
                refine stepD 6 (by kernel_rfl) rfl rfl (fun K hK => ?_)
                go_simp
                go_at_call 36
                refine (HTM.out _).mono ?_
                rintro e w3 ⟨rfl, rfl⟩
                go_simp
                refine hK _ _ (fun _ => hS0) ?_
                clear hK K
                refine stepD 7 (by kernel_rfl) rfl rfl (fun K hK => ?_)
                go_simp
                refine hK _ _ (fun _ => hS0) ?_
                clear hK K
                refine doneD (by kernel_rfl) ?_ _
                refine OnlyNorm.normal ?_
                have HSS := hid (hB.trans (hS0.mono hB.size))
                clear hB hS0
                go_wp2_with fail
                go_roundw
                case rel => exact ⟨k + 1, by omega, rfl, by rw [HM.out], by rw [HM.out]; exact hle, HSS.out⟩
                case measure => simp only [intOf, Int.toNat_natCast]; omega
              · have e : k = n0 := by omega
                subst e
                have hin : decide (((k : Nat) : Int) < ((k : Nat) : Int)) = false := decide_eq_false (by omega)
                rw [HDN.out] at hDk ⊢
                have HIL := hid hIL
                have HYL := hid hYL
                have ⟨g0, g1, g2, g3, g4, g5, g6, g7⟩ := cells8 hIL.hx
                have cy0 : wr.cell? ⟨y, 0, none⟩ = some (.int .i64 (0)) := cell_of_row wr y 0 _ _ _ hYL
                have cy1 : wr.cell? ⟨y, 1, none⟩ = some (.int .i64 (0)) := cell_of_row wr y 1 _ _ _ hYL
                have hdb : decide ((1000000000000000 : Int) < ((d : Nat) : Int)) = true := decide_eq_true (by have := HDD.out; omega)
                have hdb' : ((1000000000000000 : Int) < ((d : Nat) : Int)) := by have := HDD.out; omega
                clear hIL hYL hB
                go_wp2_with (first
              | (refine wpList_value rfl (by intro c hc; cases hc) (.agg (handR (rawOf H) (.slice pf F cf) (.slice pc C cc))) (exec_ldR rfl rfl HIL.out.hx) ?_)
              | (go_at_call 23; refine (HOU.out wr HIL.out.bel).mono ?_; rintro e wQ ⟨rfl, hbq⟩; have HIQ := hid (HIL.out.below hbq); have HYQ := hid (heap_below hbq HYL.out (heap_lt HYL.out)); clear g0 g1 g2 g3 g4 g5 g6 g7 cy0 cy1; have ⟨g0, g1, g2, g3, g4, g5, g6, g7⟩ := cells8 HIQ.out.hx; have cy0 : wQ.cell? ⟨y, 0, none⟩ = some (.int .i64 (0)) := cell_of_row wQ y 0 _ _ _ HYQ.out; have cy1 : wQ.cell? ⟨y, 1, none⟩ = some (.int .i64 (0)) := cell_of_row wQ y 1 _ _ _ HYQ.out; clear hbq)
              | (go_at_call 12; refine (known_c _).mono ?_; rintro e wK ⟨rfl, hbk⟩; have HIK := hid (HIQ.out.below hbk)))
                go_ret
                exact ⟨rfl, by rw [hg]; exact HIK.out.bel⟩
end Go.Proofs.Ytmjnelkeiogdcaa
