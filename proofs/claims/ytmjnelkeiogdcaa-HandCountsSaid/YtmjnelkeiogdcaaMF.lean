/- The reference's Weights. -/
import Derived.Test.YtmjnelkeiogdcaaME
set_option linter.unusedSimpArgs false
set_option linter.unusedVariables false
namespace Go.Proofs.Ytmjnelkeiogdcaa
open Go Go.RowKit Go.Shelf
set_option maxRecDepth 100000

/-- The hand's box and the row of weights. -/
structure WI (g : Nat) (w : World) (H : HV) (fv cv : Value) (b m : Nat) (f : Nat → Nat) (W : World) : Prop where
  bel : Below g w W
  hx : W.heap[g]? = some (.cells (handR (rawOf H) fv cv) 26 (0, 0))
  out : W.heap[b]? = some (.cells (irow m (cst f)) 3 (0, 0))
  lt : g < b
theorem WI.below {g : Nat} {w : World} {H : HV} {fv cv : Value} {b m : Nat} {f : Nat → Nat} {W W' : World} (h : WI g w H fv cv b m f W) (hb : Below W.heap.size W W') : WI g w H fv cv b m f W' :=
  ⟨h.bel.trans (hb.mono (Nat.le_of_lt (heap_lt h.hx))), heap_below hb h.hx (heap_lt h.hx), heap_below hb h.out (heap_lt h.out), h.lt⟩
theorem WI.put {g : Nat} {w : World} {H : HV} {fv cv : Value} {b m : Nat} {f : Nat → Nat} {W : World} (h : WI g w H fv cv b m f W) (o x : Nat) {f' : Nat → Nat} (hf : ∀ j, f' j = if j = o then x else f j) : WI g w H fv cv b m f' (W.setCell ⟨b, o, none⟩ (.int .i64 ((x : Nat) : Int))) := by
  have hl := h.lt
  refine ⟨h.bel.trans (below_set (by omega)), (heap_setCell_other W ⟨b, o, none⟩ g _ (show g ≠ b by omega)).trans h.hx, ?_, h.lt⟩
  rw [set_irow h.out o ((x : Nat) : Int)]
  have e : upd (cst f) o ((x : Nat) : Int) = cst f' := by
    funext j
    simp only [upd, cst, hf]
    split <;> rfl
  rw [e]
theorem WI.cell {g : Nat} {w : World} {H : HV} {fv cv : Value} {b m : Nat} {f : Nat → Nat} {W : World} (h : WI g w H fv cv b m f W) (o : Nat) (ho : o < m) : W.cell? ⟨b, o, none⟩ = some (.int .i64 ((f o : Nat) : Int)) := by
  rw [cell_of_row _ _ o _ _ (0, 0) h.out, irow_get _ _ _ ho]
  rfl
theorem WI.cong {g : Nat} {w : World} {H : HV} {fv cv : Value} {b m : Nat} {f f' : Nat → Nat} {W : World} (h : WI g w H fv cv b m f W) (hf : f = f') : WI g w H fv cv b m f' W := hf ▸ h
set_option maxHeartbeats 8000000 in
theorem rweights_c (H : HV) (hV : Val H) (fv cv v : Value) (L : List Value) (B : Nat) (w : World) (hrf : ReadsF w fv (rawOf H).faces) (hrc : ReadsA w cv (rawOf H).cards) (hao : AO w B v L (intLL (allC H))) (hlen : (allC H).length ≤ 1500)
    (D : Nat) (hD : dnK H (beginS H) (dep (beginS H)) = D) (hD15 : D ≤ 1000000000000000) :
    Calls Try.prog 19 #[.agg (handR (rawOf H) fv cv), v, .int .i64 ((D : Nat) : Int)] w fun e w' => (∃ b, e = .returned (.slice (some ⟨b, 0, none⟩) (outsN H) (outsN H)) ∧ w'.heap[b]? = some (.cells (irow (outsN H) (cst fun o => rawW H (beginS H) o / gcdW (rawW H (beginS H)) (outsN H))) 3 (0, 0))) ∧ Below w.heap.size w w' := by
  have hx := heap_alloc_new w (.cells (handR (rawOf H) fv cv) 26)
  have hb : Below w.heap.size w (w.alloc (.cells (handR (rawOf H) fv cv) 26)) := (Below.refl _ _).alloc (Nat.le_refl _) _
  obtain ⟨g, hg⟩ : ∃ g, w.heap.size = g := ⟨_, rfl⟩
  rw [hg] at hx hb
  have HI := hid (ComI.mk (H := H) (v := v) (L := L) hb hx)
  have HVL := hid hV
  have HRF := hid hrf
  have HRC := hid hrc
  have HAO := hid hao
  obtain ⟨K, hK⟩ : ∃ K, dep (beginS H) = K := ⟨_, rfl⟩
  have hK5 : K ≤ 8 := by rw [← hK]; exact dep_le8 H hV.hand.ok
  have hK1 : 1 ≤ K := by rw [← hK]; exact dep_pos H hV.hand.ok
  have HK := hid hK
  obtain ⟨m, hm⟩ : ∃ m, (allC H).length = m := ⟨_, rfl⟩
  have HM := hid hm
  rw [hm] at hlen
  obtain ⟨po, co, hvo⟩ := hao.slice
  rw [intLL_len, hm] at hvo
  subst hvo
  have hmn := outs_le H hV.hand.ok
  have HGP := hid (gcd_raw_pos H hV)
  have HRL := hid (show ∀ o, rawW H (beginS H) o ≤ D from fun o => hD ▸ raw_le H (beginS H) (begin_fit H hV.hand.ok) hV.hand.last o)
  have HPL := hid (show ∀ k o, rawP H k o ≤ D from fun k o => hD ▸ rawP_le H hV k o)
  have HPA := hid (show ∀ o, rawP H m o = rawW H (beginS H) o from fun o => rawP_all H hV m o (by omega))
  have HDD := hid hD
  obtain ⟨M, hM⟩ : ∃ M, outsN H = M := ⟨_, rfl⟩
  have HMM := hid hM
  rw [hM] at hmn HGP ⊢
  have hmk := fun W => mk_ints W M (by omega)
  clear hV hrf hrc hao hb hx hm hK hM
  go_enter Try.func19, Try.ntmps19
  go_upto_region 1 with fail
  generalize w.alloc (.cells (handR (rawOf H) fv cv) 26) = wa at HI ⊢
  go_upto_region 3 with (first
    | (refine wpList_value rfl (by intro c hc; cases hc) (.agg (handR (rawOf H) fv cv)) (exec_ldR rfl rfl HI.out.hx) ?_)
    | (go_at_call 22; refine (routcomes_c H HVL.out fv cv wa.heap.size wa (RawAt.came (HRF.out.below (hg ▸ HI.out.bel)) (HRC.out.below (hg ▸ HI.out.bel)))).mono ?_; rintro e w2 ⟨rfl, hb2⟩; rw [HMM.out]; have HI2 := hid (HI.out.below hb2)))
  have hal : Below w2.heap.size w2 (w2.alloc (.cells (irow M fun _ => 0) 3)) := (Below.refl _ _).alloc (Nat.le_refl _) _
  have hI3 : WI g w H fv cv w2.heap.size M (rawP H 0) (w2.alloc (.cells (irow M fun _ => 0) 3)) := by
    have h1 := HI2.out.below hal
    refine ⟨h1.bel, h1.hx, ?_, heap_lt HI2.out.hx⟩
    have e : cst (rawP H 0) = fun _ => 0 := by funext o; simp [cst, rawP_zero]
    rw [e]
    exact heap_alloc_new w2 _
  obtain ⟨b, hbb⟩ : ∃ b, w2.heap.size = b := ⟨_, rfl⟩
  rw [hbb] at hI3
  generalize w2.alloc (.cells (irow M fun _ => 0) 3) = w3 at hI3 ⊢
  rw [hbb]
  have HI3 := hid hI3
  clear hal hI3 HI HI2 hb2 hbb hmk
  go_loopw [8] (fun ix wr => ∃ k : Nat, k ≤ m ∧ ix = .int .i64 ((k : Nat) : Int) ∧ WI g w H fv cv b M (rawP H k) wr) (fun ix _ => m - (intOf ix).toNat)
  case atStart => exact ⟨0, by omega, rfl, HI3.out⟩
  case round =>
    clear HI3
    obtain ⟨k, hk, rfl, hI⟩ := hrel
    rcases Nat.lt_or_ge k m with hkm | hkm
    · have hkn : decide (((k : Nat) : Int) < ((m : Nat) : Int)) = true := decide_eq_true (by omega)
      have hkn' : ((k : Nat) : Int) < ((m : Nat) : Int) := by omega
      have hk0 : (0 : Int) ≤ ((k : Nat) : Int) := by omega
      have hkw : IntKind.i64.wrap (((k : Nat) : Int) + 1) = ((k + 1 : Nat) : Int) := (IntWalk.i64_in _ (by omega)).trans (by omega)
      have hkL : k < (allC H).length := by rw [HM.out]; exact hkm
      obtain ⟨t, hpl, hrt⟩ := all_run H k hkL
      rw [HK.out] at hpl
      have hps := rawP_succ H k hkL t hrt
      rw [HDD.out] at hps
      have hwB : Below w.heap.size w wr := hg ▸ hI.bel
      obtain ⟨bo, u, hpo, hbo, hcu, hel⟩ := HAO.out.elem (i := k) (by rw [intLL_len]; exact hkL)
      rw [intLL_get _ _ _ hkL] at hel
      obtain ⟨p, hp⟩ : ∃ p, (allC H)[k] = p := ⟨_, rfl⟩
      rw [hp] at hpl hrt hps hel
      subst hpo
      obtain ⟨q, cap, hue, -, -, -⟩ := slc_reads hel (by omega) 0 (by omega)
      rw [hpl] at hue
      have HEL := hid hel
      have HPS := hid hps
      have HI4 := hid hI
      have hcap : ∀ i, i ≤ K → i ≤ cap ∧ 0 < cap ∧ ReadsA w (.slice (some ⟨q, 0, none⟩) i cap) (intL (p.take i)) := fun i hi => by
        obtain ⟨q', cap', h1, h2, h3, h4⟩ := slc_reads hel (by omega) i (by omega)
        rw [hue] at h1
        injection h1 with e1 _ e3
        injection e1 with e1
        injection e1 with e1
        subst e1 e3
        exact ⟨h2, h3, h4⟩
      have HCP := hid hcap
      clear hps hwB hp hcap hel hI
      go_upto_region 7 with fail
      go_loopw [9, 10] (fun wx ix wr => ∃ i : Nat, i ≤ K ∧ wx = .int .i64 ((wR H D (beginS H) (p.take i) : Nat) : Int) ∧ ix = .int .i64 ((i : Nat) : Int) ∧ WI g w H fv cv b M (rawP H k) wr) (fun _ ix _ => K - (intOf ix).toNat)
      case atStart => exact ⟨0, by omega, by rw [List.take_zero]; rfl, rfl, HI4.out⟩
      case round =>
        clear HI4
        obtain ⟨i, hi, rfl, rfl, hJ⟩ := hrel
        obtain ⟨wq, hwq⟩ : ∃ wq, wq = wr := ⟨_, rfl⟩
        subst hwq
        have HIq := hid hJ
        have hwB : Below w.heap.size w wq := hg ▸ hJ.bel
        have hcq0 : wq.cell? ⟨bo, k, none⟩ = some u := (hwB.cell (p := ⟨bo, k, none⟩) hbo).trans hcu
        have hcq : wq.cell? ⟨bo, k, none⟩ = some (.slice (some ⟨q, 0, none⟩) K cap) := by rw [hcq0, hue]
        have hbq : bo < wq.heap.size := Nat.lt_of_lt_of_le hbo hwB.size
        clear hwB hJ
        have hwl := wR_le H (p.take i) D (beginS H)
        rcases Nat.lt_or_ge i K with hlt | hge
        · have hin : decide (((i : Nat) : Int) < ((K : Nat) : Int)) = true := decide_eq_true (by omega)
          have hin' : ((i : Nat) : Int) < ((K : Nat) : Int) := by omega
          have hi0 : (0 : Int) ≤ ((i : Nat) : Int) := by omega
          have hiw : IntKind.i64.wrap (((i : Nat) : Int) + 1) = ((i + 1 : Nat) : Int) := (IntWalk.i64_in _ (by omega)).trans (by omega)
          obtain ⟨a, -, hra, -, hch, hc0, -⟩ := ch_pos H _ _ _ hrt i (by omega)
          have hws := wR_step H D _ _ p hrt i (by omega)
          have hn2 := brs_small H a (run_fit H _ _ _ (begin_fit H HVL.out.hand.ok) hra).1
          rw [← hch] at hn2 hc0
          obtain ⟨hicap, hcap0, hrd⟩ := HCP.out i (by omega)
          obtain ⟨P, hP⟩ : ∃ P, p.take i = P := ⟨_, rfl⟩
          rw [hP] at hra hch hrd hn2 hc0 hws hwl
          rw [hP]
          have HE6 := hid hrd
          have HCH := hid (show ∀ W, Below g w W → ReadsA w (.slice (some ⟨q, 0, none⟩) i cap) (intL P) → Calls Try.prog 35 #[.agg (handR (rawOf H) fv cv), .slice (some ⟨q, 0, none⟩) i cap] W fun e w' => e = .returned (.int .i64 ((chE H (beginS H) P : Nat) : Int)) ∧ Below W.heap.size W w' from fun W hW hI => by
            rw [hch]
            exact rchoices_c H HVL.out fv cv P _ a hra W.heap.size W (RawAt.came (HRF.out.below (hg ▸ hW)) (HRC.out.below (hg ▸ hW))) (CrsAt.came (hI.below (hg ▸ hW))))
          obtain ⟨c, hc⟩ : ∃ c, chE H (beginS H) P = c := ⟨_, rfl⟩
          rw [hc] at HCH hn2 hc0 hws
          obtain ⟨wv, hwv⟩ : ∃ wv, wR H D (beginS H) P = wv := ⟨_, rfl⟩
          rw [hwv] at hws hwl
          rw [hwv]
          have HWS := hid hws
          have hq0 : (((c : Nat) : Int) == 0) = false := by simp; omega
          have hq0' : ((c : Nat) : Int) ≠ 0 := by omega
          have hqe := wrap64_quo wv c (Nat.lt_of_le_of_lt (Nat.div_le_self _ _) (by omega))
          clear hws hra hch hrd hc hP HAO hwv hcq0
          go_upto_region 9 with fail
          refine grow_vals 9 [33, 34, 35, 36, 37, 38, 39, 40, 41] [(.int .i64 ((wv : Nat) : Int)), (.agg (handR (rawOf H) fv cv)), (.slice (some ⟨bo, 0, none⟩) m co), (.int .i64 ((k : Nat) : Int)), (.pointer (some ⟨bo, k, none⟩)), (.slice (some ⟨q, 0, none⟩) K cap), (.int .i64 ((i : Nat) : Int)), (.slice (some ⟨q, 0, none⟩) i cap), (.int .i64 ((c : Nat) : Int))] (by kernel_rfl) (by kernel_rfl) ?_ ?_
          · intro jq oj hjq hoj a' w' hb' he hdep Kq hKq
            have hjq' : jq = 0 ∨ jq = 1 ∨ jq = 2 ∨ jq = 3 ∨ jq = 4 ∨ jq = 5 ∨ jq = 6 ∨ jq = 7 ∨ jq = 8 := by omega
            rcases hjq' with rfl | rfl | rfl | rfl | rfl | rfl | rfl | rfl | rfl
            · obtain rfl := Option.some.inj hoj
              exact wpO_val _ (exec_mv rfl ((he 9 (by decide)).trans rfl : a'.eval (.tmp 9) = (.int .i64 ((wv : Nat) : Int)))) (hKq _ (Below.refl _ _))
            · obtain rfl := Option.some.inj hoj
              exact wpO_val _ (exec_ldR rfl ((he 3 (by decide)).trans rfl : a'.eval (.tmp 3) = .pointer (some ⟨g, 0, none⟩)) (heap_below hb' HIq.out.hx (heap_lt HIq.out.hx))) (hKq _ (Below.refl _ _))
            · obtain rfl := Option.some.inj hoj
              exact wpO_val _ (exec_mv rfl ((he 1 (by decide)).trans rfl : a'.eval (.tmp 1) = (.slice (some ⟨bo, 0, none⟩) m co))) (hKq _ (Below.refl _ _))
            · obtain rfl := Option.some.inj hoj
              exact wpO_val _ (exec_mv rfl ((he 8 (by decide)).trans rfl : a'.eval (.tmp 8) = (.int .i64 ((k : Nat) : Int)))) (hKq _ (Below.refl _ _))
            · obtain rfl := Option.some.inj hoj
              exact wpO_val _ (exec_ixL rfl (hdep ⟨2, .data⟩ (by simp) rfl : a'.eval (.tmp 35) = (.slice (some ⟨bo, 0, none⟩) m co)) (hdep ⟨3, .data⟩ (by simp) rfl : a'.eval (.tmp 36) = (.int .i64 ((k : Nat) : Int))) hkm) (hKq _ (Below.refl _ _))
            · obtain rfl := Option.some.inj hoj
              exact wpO_val _ (exec_ldslc rfl (hdep ⟨4, .data⟩ (by simp) rfl : a'.eval (.tmp 37) = (.pointer (some ⟨bo, k, none⟩))) ((hb'.cell (p := ⟨bo, k, none⟩) hbq).trans hcq)) (hKq _ (Below.refl _ _))
            · obtain rfl := Option.some.inj hoj
              exact wpO_val _ (exec_mv rfl ((he 10 (by decide)).trans rfl : a'.eval (.tmp 10) = (.int .i64 ((i : Nat) : Int)))) (hKq _ (Below.refl _ _))
            · obtain rfl := Option.some.inj hoj
              exact wpO_val _ (exec_slcA rfl (hdep ⟨5, .data⟩ (by simp) rfl : a'.eval (.tmp 38) = (.slice (some ⟨q, 0, none⟩) K cap)) (hdep ⟨6, .data⟩ (by simp) rfl : a'.eval (.tmp 39) = (.int .i64 ((i : Nat) : Int))) hicap hcap0 rfl) (hKq _ (Below.refl _ _))
            · obtain rfl := Option.some.inj hoj
              exact wpO_call _ _ (exec_call2 rfl rfl (hdep ⟨1, .data⟩ (by simp) rfl : a'.eval (.tmp 34) = (.agg (handR (rawOf H) fv cv))) (hdep ⟨7, .data⟩ (by simp) rfl : a'.eval (.tmp 40) = (.slice (some ⟨q, 0, none⟩) i cap)) (by go_simp)) ((HCH.out w' (HIq.out.bel.trans (hb'.mono (Nat.le_of_lt (heap_lt HIq.out.hx)))) HE6.out).mono fun e w'' ⟨h1, h2⟩ => ⟨_, h1, hKq w'' h2⟩)
          · intro w6 hb6
            simp only [puts, Act.put, List.setIfInBounds_toArray, List.set_cons_zero, List.set_cons_succ, List.drop_succ_cons, List.drop_zero, Nat.zero_add, Nat.reduceAdd, List.getD_cons_zero, List.getD_cons_succ]
            have HI6 := hid (HIq.out.below hb6)
            clear hb6 hcq hbq
            go_wp2_with fail
            rw [hqe]
            go_roundw
            case rel => exact ⟨i + 1, by omega, by rw [HWS.out], rfl, HI6.out⟩
            case measure => simp only [intOf, Int.toNat_natCast]; omega
        · obtain rfl : i = K := by omega
          have hin : decide (((i : Nat) : Int) < ((i : Nat) : Int)) = false := decide_eq_false (by omega)
          have htk : p.take i = p := List.take_of_length_le (by omega)
          rw [htk] at hwl
          rw [htk]
          obtain ⟨wv, hwv⟩ : ∃ wv, wR H D (beginS H) p = wv := ⟨_, rfl⟩
          rw [hwv] at hwl HPS
          rw [hwv]
          have hfd := run_fit H _ _ _ (begin_fit H HVL.out.hand.ok) hrt
          have hd0 : dep t = 0 := by have := hfd.2; rw [HK.out] at this; omega
          obtain ⟨ho1, ho2⟩ := out_range H HVL.out.hand.ok p.length t ((reach_run H HVL.out.hand.wide _ _ _).2 ⟨p, rfl, hrt⟩) hd0
          rw [HMM.out] at ho2
          obtain ⟨o, ho⟩ : ∃ o : Nat, outN H t = ((o : Nat) : Int) := ⟨(outN H t).toNat, by omega⟩
          have hoM : o < M := by omega
          have HOU := hid (show ∀ W, Below g w W → Calls Try.prog 23 #[.agg (handR (rawOf H) fv cv), u] W fun e w' => e = .returned (.int .i64 ((o : Nat) : Int)) ∧ Below W.heap.size W w' from fun W hW => by
            have h := routcome_c H HVL.out fv cv p u t hrt hd0 W.heap.size W (RawAt.came (HRF.out.below (hg ▸ hW)) (HRC.out.below (hg ▸ hW))) (CrsAt.came (HEL.out.readsA.below (hg ▸ hW)))
            rw [ho] at h
            exact h)
          obtain ⟨fo, hfo⟩ : ∃ fo, rawP H k o = fo := ⟨_, rfl⟩
          have HFO := hid hfo
          have hle1 := HPL.out (k + 1) o
          have hsc := HPS.out o
          rw [ho, if_pos rfl, hfo] at hsc
          obtain ⟨z, hz⟩ : ∃ z, fo + wv = z := ⟨_, rfl⟩
          have hzw : IntKind.i64.wrap (((fo : Nat) : Int) + ((wv : Nat) : Int)) = ((z : Nat) : Int) := (IntWalk.i64_in _ (by omega)).trans (by omega)
          have hoM1 : decide (((o : Nat) : Int) < ((M : Nat) : Int)) = true := decide_eq_true (by omega)
          have hoM2 : ((o : Nat) : Int) < ((M : Nat) : Int) := by omega
          have ho0 : (0 : Int) ≤ ((o : Nat) : Int) := by omega
          have HPX := hid (show ∀ j, rawP H (k + 1) j = if j = o then z else rawP H k j from fun j => by
            rw [HPS.out j, ho]
            by_cases e : j = o
            · subst e; rw [if_pos rfl, if_pos rfl, hfo, hz]
            · rw [if_neg (by omega), if_neg e, Nat.add_zero])
          rw [hue] at HOU
          clear hwv htk hfd hd0 ho1 ho2 hle1 hsc hfo HAO HPS hcq0
          go_upto_region 10 with fail
          refine grow_vals 10 [43, 44, 45, 46, 47, 48, 49, 50, 51, 52] [(.slice (some ⟨b, 0, none⟩) M M), (.agg (handR (rawOf H) fv cv)), (.slice (some ⟨bo, 0, none⟩) m co), (.int .i64 ((k : Nat) : Int)), (.pointer (some ⟨bo, k, none⟩)), (.slice (some ⟨q, 0, none⟩) i cap), (.int .i64 ((o : Nat) : Int)), (.pointer (some ⟨b, o, none⟩)), (.int .i64 ((fo : Nat) : Int)), (.int .i64 ((wv : Nat) : Int))] (by kernel_rfl) (by kernel_rfl) ?_ ?_
          · intro jq oj hjq hoj a' w' hb' he hdep Kq hKq
            have hjq' : jq = 0 ∨ jq = 1 ∨ jq = 2 ∨ jq = 3 ∨ jq = 4 ∨ jq = 5 ∨ jq = 6 ∨ jq = 7 ∨ jq = 8 ∨ jq = 9 := by omega
            rcases hjq' with rfl | rfl | rfl | rfl | rfl | rfl | rfl | rfl | rfl | rfl
            · obtain rfl := Option.some.inj hoj
              exact wpO_val _ (exec_mv rfl ((he 7 (by decide)).trans rfl : a'.eval (.tmp 7) = (.slice (some ⟨b, 0, none⟩) M M))) (hKq _ (Below.refl _ _))
            · obtain rfl := Option.some.inj hoj
              exact wpO_val _ (exec_ldR rfl ((he 3 (by decide)).trans rfl : a'.eval (.tmp 3) = .pointer (some ⟨g, 0, none⟩)) (heap_below hb' HIq.out.hx (heap_lt HIq.out.hx))) (hKq _ (Below.refl _ _))
            · obtain rfl := Option.some.inj hoj
              exact wpO_val _ (exec_mv rfl ((he 1 (by decide)).trans rfl : a'.eval (.tmp 1) = (.slice (some ⟨bo, 0, none⟩) m co))) (hKq _ (Below.refl _ _))
            · obtain rfl := Option.some.inj hoj
              exact wpO_val _ (exec_mv rfl ((he 8 (by decide)).trans rfl : a'.eval (.tmp 8) = (.int .i64 ((k : Nat) : Int)))) (hKq _ (Below.refl _ _))
            · obtain rfl := Option.some.inj hoj
              exact wpO_val _ (exec_ixL rfl (hdep ⟨2, .data⟩ (by simp) rfl : a'.eval (.tmp 45) = (.slice (some ⟨bo, 0, none⟩) m co)) (hdep ⟨3, .data⟩ (by simp) rfl : a'.eval (.tmp 46) = (.int .i64 ((k : Nat) : Int))) hkm) (hKq _ (Below.refl _ _))
            · obtain rfl := Option.some.inj hoj
              exact wpO_val _ (exec_ldslc rfl (hdep ⟨4, .data⟩ (by simp) rfl : a'.eval (.tmp 47) = (.pointer (some ⟨bo, k, none⟩))) ((hb'.cell (p := ⟨bo, k, none⟩) hbq).trans hcq)) (hKq _ (Below.refl _ _))
            · obtain rfl := Option.some.inj hoj
              exact wpO_call _ _ (exec_call2 rfl rfl (hdep ⟨1, .data⟩ (by simp) rfl : a'.eval (.tmp 44) = (.agg (handR (rawOf H) fv cv))) (hdep ⟨5, .data⟩ (by simp) rfl : a'.eval (.tmp 48) = (.slice (some ⟨q, 0, none⟩) i cap)) (by go_simp)) ((HOU.out w' (HIq.out.bel.trans (hb'.mono (Nat.le_of_lt (heap_lt HIq.out.hx))))).mono fun e w'' ⟨h1, h2⟩ => ⟨_, h1, hKq w'' h2⟩)
            · obtain rfl := Option.some.inj hoj
              exact wpO_val _ (exec_ix rfl (hdep ⟨0, .data⟩ (by simp) rfl : a'.eval (.tmp 43) = (.slice (some ⟨b, 0, none⟩) M M)) (hdep ⟨6, .data⟩ (by simp) rfl : a'.eval (.tmp 49) = (.int .i64 ((o : Nat) : Int))) hoM) (hKq _ (Below.refl _ _))
            · obtain rfl := Option.some.inj hoj
              exact wpO_val _ (exec_ldcell rfl (hdep ⟨7, .data⟩ (by simp) rfl : a'.eval (.tmp 50) = (.pointer (some ⟨b, o, none⟩))) (by rw [← HFO.out]; exact (HIq.out.below hb').cell o hoM)) (hKq _ (Below.refl _ _))
            · obtain rfl := Option.some.inj hoj
              exact wpO_val _ (exec_mv rfl ((he 9 (by decide)).trans rfl : a'.eval (.tmp 9) = (.int .i64 ((wv : Nat) : Int)))) (hKq _ (Below.refl _ _))
          · intro w6 hb6
            simp only [puts, Act.put, List.setIfInBounds_toArray, List.set_cons_zero, List.set_cons_succ, List.drop_succ_cons, List.drop_zero, Nat.zero_add, Nat.reduceAdd, List.getD_cons_zero, List.getD_cons_succ]
            have HI6 := hid (HIq.out.below hb6)
            have hc6 := HI6.out.cell o hoM
            have hf6 := frozen_of_row _ _ o _ _ HI6.out.out
            go_wp2_with fail
            go_roundw
            case rel => exact ⟨k + 1, by omega, rfl, HI6.out.put o z HPX.out⟩
            case measure => simp only [intOf, Int.toNat_natCast]; omega
    · obtain rfl : k = m := by omega
      have hkn : decide (((k : Nat) : Int) < ((k : Nat) : Int)) = false := decide_eq_false (by omega)
      have hI0 := hI.cong (f' := rawW H (beginS H)) (funext fun o => HPA.out o)
      obtain ⟨R, hR⟩ : ∃ R, rawW H (beginS H) = R := ⟨_, rfl⟩
      rw [hR] at hI0 HRL HGP
      have HI0 := hid hI0
      have HR := hid hR
      clear hI hI0 hR HAO HPL HPA hk hkm
      go_upto_region 13 with fail
      go_loopw [11, 12] (fun dx ix wr => ∃ i : Nat, i ≤ M ∧ dx = .int .i64 ((gcdW R i : Nat) : Int) ∧ ix = .int .i64 ((i : Nat) : Int) ∧ WI g w H fv cv b M R wr) (fun _ ix _ => M - (intOf ix).toNat)
      case atStart => exact ⟨0, by omega, rfl, rfl, HI0.out⟩
      case round =>
        clear HI0
        obtain ⟨i, hi, rfl, rfl, hI⟩ := hrel
        have hdl := gcdW_le R D HRL.out i
        rcases Nat.lt_or_ge i M with hlt | hge
        · have hin2 : decide (((i : Nat) : Int) < ((M : Nat) : Int)) = true := decide_eq_true (by omega)
          have hin3 : ((i : Nat) : Int) < ((M : Nat) : Int) := by omega
          have hi0 : (0 : Int) ≤ ((i : Nat) : Int) := by omega
          have hiw : IntKind.i64.wrap (((i : Nat) : Int) + 1) = ((i + 1 : Nat) : Int) := (IntWalk.i64_in _ (by omega)).trans (by omega)
          have hc := hI.cell i hlt
          have hrl := HRL.out i
          have hgs : Nat.gcd (R i) (gcdW R i) = gcdW R (i + 1) := rfl
          obtain ⟨ri, hri⟩ : ∃ ri, R i = ri := ⟨_, rfl⟩
          obtain ⟨dd, hdd⟩ : ∃ dd, gcdW R i = dd := ⟨_, rfl⟩
          rw [hri] at hc hrl hgs
          rw [hdd] at hdl hgs
          rw [hdd]
          clear hri hdd
          go_wp2_with (go_at_call 47; refine (rdivisor_c dd ri (by omega) (by omega) wr).mono ?_; rintro e w8 ⟨rfl, hb8⟩; rw [hgs]; have HI8 := hid (hI.below hb8); clear hb8)
          go_roundw
          case rel => exact ⟨i + 1, by omega, rfl, rfl, HI8.out⟩
          case measure => simp only [intOf, Int.toNat_natCast]; omega
        · obtain rfl : i = M := by omega
          have hin2 : decide (((i : Nat) : Int) < ((i : Nat) : Int)) = false := decide_eq_false (by omega)
          obtain ⟨dd, hdd⟩ : ∃ dd, gcdW R i = dd := ⟨_, rfl⟩
          have HIz := hid (hI.cong (mix_none R dd).symm)
          rw [hdd] at HGP hdl
          have HDG := hid hdd
          rw [hdd]
          have hdp := HGP.out
          have hq0 : (((dd : Nat) : Int) == 0) = false := by simp; omega
          have hq0' : ((dd : Nat) : Int) ≠ 0 := by omega
          clear hI hdd hge hi
          go_upto_region 17 with fail
          go_loopw [13] (fun ix wr => ∃ j : Nat, j ≤ i ∧ ix = .int .i64 ((j : Nat) : Int) ∧ WI g w H fv cv b i (mixW R dd j) wr) (fun ix _ => i - (intOf ix).toNat)
          case atStart => exact ⟨0, by omega, rfl, HIz.out⟩
          case round =>
            clear HIz
            obtain ⟨j, hj, rfl, hI⟩ := hrel
            rcases Nat.lt_or_ge j i with hlt | hge
            · have hjn : decide (((j : Nat) : Int) < ((i : Nat) : Int)) = true := decide_eq_true (by omega)
              have hjn' : ((j : Nat) : Int) < ((i : Nat) : Int) := by omega
              have hj0 : (0 : Int) ≤ ((j : Nat) : Int) := by omega
              have hjw : IntKind.i64.wrap (((j : Nat) : Int) + 1) = ((j + 1 : Nat) : Int) := (IntWalk.i64_in _ (by omega)).trans (by omega)
              have hc := hI.cell j hlt
              have hfz := frozen_of_row _ _ j _ _ hI.out
              have hmj : mixW R dd j j = R j := by unfold mixW; rw [if_neg (by omega)]
              rw [hmj] at hc
              have hrl := HRL.out j
              have HMX := hid (show ∀ o, mixW R dd (j + 1) o = if o = j then R j / dd else mixW R dd j o from fun o => by rw [← mix_one])
              obtain ⟨rj, hrj⟩ : ∃ rj, R j = rj := ⟨_, rfl⟩
              rw [hrj] at hc hrl HMX
              have hqe := wrap64_quo rj dd (Nat.lt_of_le_of_lt (Nat.div_le_self _ _) (by omega))
              have HIj := hid hI
              clear hrj hmj hI
              have hfin := HIj.out.put j (rj / dd) HMX.out
              rw [Int.natCast_ediv] at hfin
              have HFIN := hid hfin
              clear hfin
              go_wp2_with fail
              go_roundw
              case rel => exact ⟨j + 1, by omega, rfl, HFIN.out⟩
              case measure => simp only [intOf, Int.toNat_natCast]; omega
            · obtain rfl : j = i := by omega
              have hjn : decide (((j : Nat) : Int) < ((j : Nat) : Int)) = false := decide_eq_false (by omega)
              go_wp2_with fail
              go_ret
              refine ⟨⟨b, rfl, ?_⟩, by rw [hg]; exact hI.bel⟩
              rw [hI.out]
              congr 2
              unfold irow
              congr 1
              funext o
              have ho := o.isLt
              rw [HR.out, HDG.out]
              simp only [cst, mixW, if_pos ho]
end Go.Proofs.Ytmjnelkeiogdcaa
