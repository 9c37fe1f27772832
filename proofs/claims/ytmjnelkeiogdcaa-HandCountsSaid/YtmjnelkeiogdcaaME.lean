/- The reference's divisor and Common. -/
import Derived.Test.YtmjnelkeiogdcaaMD
import Derived.Test.YtmjnelkeiogdcaaMP
set_option linter.unusedSimpArgs false
set_option linter.unusedVariables false
namespace Go.Proofs.Ytmjnelkeiogdcaa
open Go Go.RowKit Go.Shelf
set_option maxRecDepth 100000

theorem wrap64_quo (c d : Nat) (h : c / d < 9223372036854775808) : wrap64 (((c : Nat) : Int) / ((d : Nat) : Int)) = ((c / d : Nat) : Int) := by
  rw [← Int.natCast_ediv]
  generalize c / d = q at *
  unfold wrap64
  omega
set_option maxHeartbeats 400000 in
theorem rdivisor_c (a b : Nat) (ha : a < 9223372036854775808) (hb : b < 9223372036854775808) (w : World) : Calls Try.prog 47 #[.int .i64 ((a : Nat) : Int), .int .i64 ((b : Nat) : Int)] w fun e w' => e = .returned (.int .i64 ((Nat.gcd b a : Nat) : Int)) ∧ Below w.heap.size w w' := by
  obtain ⟨d, hd⟩ : ∃ d, Nat.gcd b a = d := ⟨_, rfl⟩
  rw [hd]
  have HD := hid hd
  clear hd
  go_enter Try.func47, Try.ntmps47
  go_wp2_with fail
  go_loopw [0, 1] (fun x y wr => ∃ a' b' m : Nat, x = .int .i64 a' ∧ y = .int .i64 b' ∧ a' < 9223372036854775808 ∧ b' < 9223372036854775808 ∧ Nat.gcd b' a' = d ∧ wr = w.drewN m) (fun _ y _ => (intOf y).toNat)
  case atStart => exact ⟨a, b, 0, rfl, rfl, ha, hb, HD.out, rfl⟩
  case round =>
    obtain ⟨a', b', m, rfl, rfl, ha', hb', hg, rfl⟩ := hrel
    by_cases h0 : b' = 0
    · subst h0
      have : a' = d := by simpa using hg
      subst this
      clear hg
      go_wp2_with fail
      go_ret
      exact ⟨rfl, ⟨rfl, rfl, rfl, Nat.le_refl _, fun _ _ => rfl⟩⟩
    · have hne : (((b' : Nat) : Int) != 0) = true := by simp; exact h0
      have hne1 : (((b' : Nat) : Int) == 0) = false := by simp; exact h0
      have hne' : ((b' : Nat) : Int) ≠ 0 := by omega
      have hq := tmodN a' b'
      have hr : a' % b' < b' := Nat.mod_lt _ (by omega)
      have hg2 : Nat.gcd (a' % b') b' = d := by rw [← hg, ← Nat.gcd_rec]
      have HG := hid hg2
      clear hg hg2 HD ha hb
      generalize a' % b' = r at *
      have wr' := wrap_nat r (by omega)
      go_wp2_with fail
      go_quiet (fail)
      go_wp2_with fail
      go_roundw
      case rel => exact ⟨b', r, m + nq, rfl, rfl, hb', by omega, HG.out, World.drewN_drewN _ _ _⟩
      case measure => simp [intOf]; omega
/-- What Common and Weights see: the hand's box, and all courses. -/
structure ComI (g : Nat) (w : World) (H : HV) (fv cv v : Value) (L : List Value) (W : World) : Prop where
  bel : Below g w W
  hx : W.heap[g]? = some (.cells (handR (rawOf H) fv cv) 26 (0, 0))
theorem ComI.below {g : Nat} {w : World} {H : HV} {fv cv v : Value} {L : List Value} {W W' : World} (h : ComI g w H fv cv v L W) (hb : Below W.heap.size W W') : ComI g w H fv cv v L W' :=
  ⟨h.bel.trans (hb.mono (Nat.le_of_lt (heap_lt h.hx))), heap_below hb h.hx (heap_lt h.hx)⟩
theorem slc_reads {W : World} {B : Nat} {u : Value} {p : List Nat} (hu : Ints W B u (intL p)) (h0 : 0 < p.length) (i : Nat) (hi : i ≤ p.length) : ∃ q cap, u = .slice (some ⟨q, 0, none⟩) p.length cap ∧ i ≤ cap ∧ 0 < cap ∧ ReadsA W (.slice (some ⟨q, 0, none⟩) i cap) (intL (p.take i)) := by
  have hl := intL_len p
  rcases hu.2 with ⟨h2, h3⟩ | ⟨q, cap, cur, h3, h4, h5, h6, _⟩
  · rw [hl] at h3; omega
  · rw [hl] at h3 h6
    refine ⟨q, cap, h3, by omega, by omega, ?_⟩
    rw [h3] at hu
    have h := hu.part i (by rw [hl]; exact hi)
    have e : (intL p).take i = intL (p.take i) := by simp [intL, List.map_take]
    rw [e] at h
    exact h
set_option maxHeartbeats 8000000 in
theorem rcommon_c (H : HV) (hV : Val H) (fv cv v : Value) (L : List Value) (B : Nat) (w : World) (hrf : ReadsF w fv (rawOf H).faces) (hrc : ReadsA w cv (rawOf H).cards) (hao : AO w B v L (intLL (allC H))) (hlen : (allC H).length ≤ 1500) :
    Calls Try.prog 17 #[.agg (handR (rawOf H) fv cv), v] w fun e w' => e = .returned (.int .i64 ((satN (dnK H (beginS H) (dep (beginS H))) : Nat) : Int)) ∧ Below w.heap.size w w' := by
  have hx := heap_alloc_new w (.cells (handR (rawOf H) fv cv) 26)
  have hb : Below w.heap.size w (w.alloc (.cells (handR (rawOf H) fv cv) 26)) := (Below.refl _ _).alloc (Nat.le_refl _) _
  obtain ⟨g, hg⟩ : ∃ g, w.heap.size = g := ⟨_, rfl⟩
  rw [hg] at hx hb
  have HI := hid (ComI.mk (H := H) (v := v) (L := L) hb hx)
  have HVL := hid hV
  have HRF := hid hrf
  have HRC := hid hrc
  have HAO := hid hao
  obtain ⟨K, hK⟩ : ∃ K, dep (beginS H) = K := ⟨_, rfl⟩
  have hK5 : K ≤ 8 := by rw [← hK]; exact dep_le8 H hV.hand.ok
  have HK := hid hK
  obtain ⟨m, hm⟩ : ∃ m, (allC H).length = m := ⟨_, rfl⟩
  have HM := hid hm
  rw [hm] at hlen
  obtain ⟨po, co, hvo⟩ := hao.slice
  rw [intLL_len, hm] at hvo
  subst hvo
  clear hV hrf hrc hao hb hx hm hK
  go_enter Try.func17, Try.ntmps17
  go_upto_region 3 with fail
  generalize w.alloc (.cells (handR (rawOf H) fv cv) 26) = wa at HI ⊢
  go_loopw [5, 6] (fun dx ix wr => ∃ (i : Nat), i ≤ K ∧ dx = .int .i64 ((satN (dnK H (beginS H) i) : Nat) : Int) ∧ ix = .int .i64 ((i : Nat) : Int) ∧ ComI g w H fv cv (.slice po m co) L wr) (fun _ ix _ => K - (intOf ix).toNat)
  case atStart => exact ⟨0, by omega, by rw [den_zero]; rfl, rfl, HI.out⟩
  case round =>
    clear HI
    obtain ⟨i, hi, rfl, rfl, hI⟩ := hrel
    have HIK := hid hI
    have hds := satN_le (dnK H (beginS H) i)
    have HDS := hid (den_succ H i)
    obtain ⟨y, hy⟩ : ∃ y, satN (dnK H (beginS H) i) = y := ⟨_, rfl⟩
    have HY := hid hy
    rw [hy] at hds HDS
    rw [hy]
    clear hy
    rcases Nat.lt_or_ge i K with hlt | hge
    · have hin : decide (((i : Nat) : Int) < ((K : Nat) : Int)) = true := decide_eq_true (by omega)
      have hin' : ((i : Nat) : Int) < ((K : Nat) : Int) := by omega
      have hi0 : (0 : Int) ≤ ((i : Nat) : Int) := by omega
      have hiw : IntKind.i64.wrap (((i : Nat) : Int) + 1) = ((i + 1 : Nat) : Int) := (IntWalk.i64_in _ (by omega)).trans (by omega)
      go_upto_region 7 with (first
    | (refine wpList_value rfl (by intro c hc; cases hc) (.agg (handR (rawOf H) fv cv)) (exec_ldR rfl rfl HIK.out.hx) ?_)
    | (go_at_call 46; refine (rsteps_c (rawOf H) fv cv wr).mono ?_; rintro e w2 ⟨rfl, hb2⟩; rw [steps_dep H HVL.out.hand.ok HVL.out.hand.bare, HK.out]; have HI2 := hid (HIK.out.below hb2)))
      go_loopw [7, 8] (fun sx ix wr => ∃ (j : Nat), j ≤ m ∧ sx = .int .i64 ((satN (stepJ H i j) : Nat) : Int) ∧ ix = .int .i64 ((j : Nat) : Int) ∧ ComI g w H fv cv (.slice po m co) L wr) (fun _ ix _ => m - (intOf ix).toNat)
      case atStart => exact ⟨0, by omega, by rw [step_zero]; rfl, rfl, HI2.out⟩
      case round =>
        clear HI2
        obtain ⟨j, hj, rfl, rfl, hJ⟩ := hrel
        obtain ⟨wq, hwq⟩ : ∃ wq, wq = wr := ⟨_, rfl⟩
        subst hwq
        have HIJ := hid hJ
        have hxs := satN_le (stepJ H i j)
        rcases Nat.lt_or_ge j m with hjm | hjm
        · have hjn : decide (((j : Nat) : Int) < ((m : Nat) : Int)) = true := decide_eq_true (by omega)
          have hjn' : ((j : Nat) : Int) < ((m : Nat) : Int) := by omega
          have hj0 : (0 : Int) ≤ ((j : Nat) : Int) := by omega
          have hjw : IntKind.i64.wrap (((j : Nat) : Int) + 1) = ((j + 1 : Nat) : Int) := (IntWalk.i64_in _ (by omega)).trans (by omega)
          have hjL : j < (allC H).length := by rw [HM.out]; exact hjm
          have hss := step_succ H i j hjL (by rw [HK.out]; exact hlt)
          obtain ⟨t, hpl, hrt⟩ := all_run H j hjL
          rw [HK.out] at hpl
          obtain ⟨a, -, hra, -, hch, hc0, -⟩ := ch_pos H _ _ _ hrt i (by omega)
          have hn2 := brs_small H a (run_fit H _ _ _ (begin_fit H HVL.out.hand.ok) hra).1
          rw [← hch] at hn2 hc0
          have hwB : Below w.heap.size w wq := hg ▸ hJ.bel
          obtain ⟨bo, u, hpo, hbo, hcu, hel⟩ := HAO.out.elem (i := j) (by rw [intLL_len]; exact hjL)
          rw [intLL_get _ _ _ hjL] at hel
          obtain ⟨q, cap, hue, hicap, hcap0, hrd⟩ := slc_reads hel (by omega) i (by omega)
          subst hue
          rw [hpl] at hcu
          have hcq : wq.cell? ⟨bo, j, none⟩ = some (.slice (some ⟨q, 0, none⟩) K cap) := (hwB.cell (p := ⟨bo, j, none⟩) hbo).trans hcu
          have hbq : bo < wq.heap.size := Nat.lt_of_lt_of_le hbo hwB.size
          subst hpo
          obtain ⟨P, hP⟩ : ∃ P, (allC H)[j].take i = P := ⟨_, rfl⟩
          rw [hP] at hss hra hch hrd hn2 hc0
          have HE6 := hid hrd
          have HCH := hid (show ∀ W, Below g w W → ReadsA w (.slice (some ⟨q, 0, none⟩) i cap) (intL P) → Calls Try.prog 35 #[.agg (handR (rawOf H) fv cv), .slice (some ⟨q, 0, none⟩) i cap] W fun e w' => e = .returned (.int .i64 ((chE H (beginS H) P : Nat) : Int)) ∧ Below W.heap.size W w' from fun W hW hI => by
            rw [hch]
            exact rchoices_c H HVL.out fv cv P _ a hra W.heap.size W (RawAt.came (HRF.out.below (hg ▸ hW)) (HRC.out.below (hg ▸ hW))) (CrsAt.came (hI.below (hg ▸ hW))))
          obtain ⟨c, hc⟩ : ∃ c, chE H (beginS H) P = c := ⟨_, rfl⟩
          rw [hc] at HCH hn2 hss hc0
          obtain ⟨x, hx⟩ : ∃ x, satN (stepJ H i j) = x := ⟨_, rfl⟩
          rw [hx] at hss hxs
          rw [hx]
          have HSS := hid hss
          have hxb : x < 9223372036854775808 := by omega
          have hgp : 0 < Nat.gcd x c := Nat.gcd_pos_of_pos_right _ hc0
          have hq0 : (((Nat.gcd x c : Nat) : Int) == 0) = false := by simp; omega
          have hq0' : ((Nat.gcd x c : Nat) : Int) ≠ 0 := by omega
          have hqb : c / Nat.gcd x c < 9223372036854775808 := Nat.lt_of_le_of_lt (Nat.div_le_self _ _) (by omega)
          have hqe := wrap64_quo c (Nat.gcd x c) hqb
          clear hss hra hch hrd hrt hpl hcu hbo hwB hc hx hP HAO
          generalize hgc : Nat.gcd x c = gc at *
          go_upto_region 9 with fail
          refine grow_vals 7 [22, 23, 24, 25, 26, 27, 28] [(.agg (handR (rawOf H) fv cv)), (.slice (some ⟨bo, 0, none⟩) m co), (.int .i64 ((j : Nat) : Int)), (.pointer (some ⟨bo, j, none⟩)), (.slice (some ⟨q, 0, none⟩) K cap), (.int .i64 ((i : Nat) : Int)), (.slice (some ⟨q, 0, none⟩) i cap)] (by kernel_rfl) (by kernel_rfl) ?_ ?_
          · intro jq oj hjq hoj a' w' hb' he hdep Kq hKq
            have hjq' : jq = 0 ∨ jq = 1 ∨ jq = 2 ∨ jq = 3 ∨ jq = 4 ∨ jq = 5 ∨ jq = 6 := by omega
            rcases hjq' with rfl | rfl | rfl | rfl | rfl | rfl | rfl
            · obtain rfl := Option.some.inj hoj
              exact wpO_val _ (exec_ldR rfl ((he 2 (by decide)).trans rfl : a'.eval (.tmp 2) = .pointer (some ⟨g, 0, none⟩)) (heap_below hb' HIJ.out.hx (heap_lt HIJ.out.hx))) (hKq _ (Below.refl _ _))
            · obtain rfl := Option.some.inj hoj
              exact wpO_val _ (exec_mv rfl ((he 1 (by decide)).trans rfl : a'.eval (.tmp 1) = (.slice (some ⟨bo, 0, none⟩) m co))) (hKq _ (Below.refl _ _))
            · obtain rfl := Option.some.inj hoj
              exact wpO_val _ (exec_mv rfl ((he 8 (by decide)).trans rfl : a'.eval (.tmp 8) = (.int .i64 ((j : Nat) : Int)))) (hKq _ (Below.refl _ _))
            · obtain rfl := Option.some.inj hoj
              exact wpO_val _ (exec_ixL rfl (hdep ⟨1, .data⟩ (by simp) rfl : a'.eval (.tmp 23) = (.slice (some ⟨bo, 0, none⟩) m co)) (hdep ⟨2, .data⟩ (by simp) rfl : a'.eval (.tmp 24) = (.int .i64 ((j : Nat) : Int))) hjm) (hKq _ (Below.refl _ _))
            · obtain rfl := Option.some.inj hoj
              exact wpO_val _ (exec_ldslc rfl (hdep ⟨3, .data⟩ (by simp) rfl : a'.eval (.tmp 25) = (.pointer (some ⟨bo, j, none⟩))) ((hb'.cell (p := ⟨bo, j, none⟩) hbq).trans hcq)) (hKq _ (Below.refl _ _))
            · obtain rfl := Option.some.inj hoj
              exact wpO_val _ (exec_mv rfl ((he 6 (by decide)).trans rfl : a'.eval (.tmp 6) = (.int .i64 ((i : Nat) : Int)))) (hKq _ (Below.refl _ _))
            · obtain rfl := Option.some.inj hoj
              exact wpO_val _ (exec_slcA rfl (hdep ⟨4, .data⟩ (by simp) rfl : a'.eval (.tmp 26) = (.slice (some ⟨q, 0, none⟩) K cap)) (hdep ⟨5, .data⟩ (by simp) rfl : a'.eval (.tmp 27) = (.int .i64 ((i : Nat) : Int))) hicap hcap0 rfl) (hKq _ (Below.refl _ _))
          · intro w6 hb6
            simp only [puts, Act.put, List.setIfInBounds_toArray, List.set_cons_zero, List.set_cons_succ, List.drop_succ_cons, List.drop_zero, Nat.zero_add, Nat.reduceAdd, List.getD_cons_zero, List.getD_cons_succ]
            have HI6 := hid (HIJ.out.below hb6)
            clear hb6 hcq hbq
            go_wp2_with (first
    | (go_at_call 35; refine (HCH.out w6 HI6.out.bel HE6.out).mono ?_; rintro e w7 ⟨rfl, hb7⟩; have HB7 := hid (HI6.out.below hb7); clear hb7)
    | (go_at_call 47; refine (rdivisor_c c x (by omega) (by omega) w7).mono ?_; rintro e w8 ⟨rfl, hb8⟩; rw [hgc]; have HB8 := hid (HB7.out.below hb8); clear hb8)
    | (go_at_call 36; rw [hqe]; refine (rtimes_c x (c / gc) hqb hxb w8).mono ?_; rintro e w9 ⟨rfl, rfl⟩))
            go_roundw
            case rel => exact ⟨j + 1, by omega, by rw [← HSS.out], rfl, HB8.out⟩
            case measure => simp only [intOf, Int.toNat_natCast]; omega
        · obtain rfl : m = j := by omega
          have hjn : decide (((m : Nat) : Int) < ((m : Nat) : Int)) = false := decide_eq_false (by omega)
          have hall := step_all H HVL.out i m (by rw [HK.out]; exact hi) (by rw [HM.out]; exact Nat.le_refl _)
          rw [hall] at hxs
          rw [hall]
          obtain ⟨x, hx⟩ : ∃ x, satN (comK H (beginS H) i) = x := ⟨_, rfl⟩
          rw [hx] at hxs HDS
          rw [hx]
          clear hall hx
          go_wp2_with (go_at_call 36; refine (rtimes_c y x (by omega) (by omega) wq).mono ?_; rintro e w9 ⟨rfl, rfl⟩)
          go_roundw
          case rel => exact ⟨i + 1, by omega, by rw [HDS.out], rfl, HIJ.out⟩
          case measure => simp only [intOf, Int.toNat_natCast]; omega
    · obtain rfl : i = K := by omega
      have hin : decide (((i : Nat) : Int) < ((i : Nat) : Int)) = false := decide_eq_false (by omega)
      go_wp2_with (first
    | (refine wpList_value rfl (by intro c hc; cases hc) (.agg (handR (rawOf H) fv cv)) (exec_ldR rfl rfl HIK.out.hx) ?_)
    | (go_at_call 46; refine (rsteps_c (rawOf H) fv cv wr).mono ?_; rintro e w2 ⟨rfl, hb2⟩; rw [steps_dep H HVL.out.hand.ok HVL.out.hand.bare, HK.out]; have HI2 := hid (HIK.out.below hb2)))
      go_ret
      exact ⟨by rw [HK.out, HY.out]; rfl, by rw [hg]; exact HI2.out.bel⟩
end Go.Proofs.Ytmjnelkeiogdcaa
