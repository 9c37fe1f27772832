/- The reference's All: all courses, step by step. -/
import Derived.Test.YtmjnelkeiogdcaaMC
import Derived.Test.YtmjnelkeiogdcaaPF
set_option linter.unusedSimpArgs false
set_option linter.unusedVariables false
namespace Go.Proofs.Ytmjnelkeiogdcaa
open Go Go.RowKit Go.Shelf
set_option maxRecDepth 100000

/-- The courses of k steps, as far as i of those of k - 1 steps have been gone on from. -/
def nxtL (H : HV) (k i : Nat) : List (List Nat) := ((crs H anyS k (beginS H)).take i).flatMap fun p => (List.range (chE H (beginS H) p)).map fun c => p ++ [c]
theorem nxt_zero (H : HV) (k : Nat) : nxtL H k 0 = [] := by simp [nxtL]
theorem nxt_all (H : HV) (k i : Nat) (h : (crs H anyS k (beginS H)).length ≤ i) : nxtL H k i = crs H anyS (k + 1) (beginS H) := by
  rw [nxtL, List.take_of_length_le h, crs_snoc]
theorem nxt_succ (H : HV) (k i : Nat) (h : i < (crs H anyS k (beginS H)).length) : nxtL H k (i + 1) = nxtL H k i ++ (List.range (chE H (beginS H) (crs H anyS k (beginS H))[i])).map fun c => (crs H anyS k (beginS H))[i] ++ [c] := by
  rw [nxtL, List.take_add_one, List.getElem?_eq_getElem h, Option.toList_some, List.flatMap_append]
  simp [nxtL]
theorem dep_le8 (H : HV) (hO : Okh H) : dep (beginS H) ≤ 8 := by
  unfold beginS
  rcases hO with ⟨hk, h1, h2, h3, h4, h5⟩ | ⟨hk, h1, h2, h3⟩ | ⟨hk, h1, h2, h3, h4, h5, h6⟩ | ⟨hk, h1, h2, h3, h4, h5⟩ | ⟨hk, h1, h2, h3⟩ <;> simp [hk, dep] <;> omega
/-- What holds of the courses that are there. -/
structure AllI (g : Nat) (w : World) (H : HV) (fv cv vo : Value) (Lo : List Value) (LL : List (List Nat)) (W : World) : Prop where
  bel : Below g w W
  hx : W.heap[g]? = some (.cells (handR (rawOf H) fv cv) 26 (0, 0))
  ao : AO W (g + 1) vo Lo (intLL LL)
theorem AllI.below {g : Nat} {w : World} {H : HV} {fv cv vo : Value} {Lo : List Value} {LL : List (List Nat)} {W W' : World} (h : AllI g w H fv cv vo Lo LL W) (hb : Below W.heap.size W W') : AllI g w H fv cv vo Lo LL W' :=
  ⟨h.bel.trans (hb.mono (Nat.le_of_lt (heap_lt h.hx))), heap_below hb h.hx (heap_lt h.hx), h.ao.below hb⟩
/-- .. and of those that are made: their blocks begin at B. -/
structure NxtI (B : Nat) (w0 : World) (vn : Value) (Ln : List Value) (LL : List (List Nat)) (W : World) : Prop where
  bel : Below B w0 W
  le : B ≤ W.heap.size
  ao : AO W B vn Ln (intLL LL)
theorem NxtI.below {B : Nat} {w0 : World} {vn : Value} {Ln : List Value} {LL : List (List Nat)} {W W' : World} (h : NxtI B w0 vn Ln LL W) (hb : Below W.heap.size W W') : NxtI B w0 vn Ln LL W' :=
  ⟨h.bel.trans (hb.mono h.le), Nat.le_trans h.le hb.size, h.ao.below hb⟩
/-- What All returns. -/
def AllV (H : HV) (e : Ending) (W : World) (B : Nat) : Prop :=
  e = .returned (.tuple #[.slice none 0 0, .bool false]) ∨ ∃ v L, e = .returned (.tuple #[v, .bool true]) ∧ AO W B v L (intLL (crs H anyS (dep (beginS H)) (beginS H))) ∧ (crs H anyS (dep (beginS H)) (beginS H)).length ≤ 1500
set_option maxHeartbeats 8000000 in
theorem all_c (H : HV) (hV : Val H) (fv cv : Value) (w : World) (hrf : ReadsF w fv (rawOf H).faces) (hrc : ReadsA w cv (rawOf H).cards) :
    Calls Try.prog 16 #[.agg (handR (rawOf H) fv cv), .int .i64 1500] w fun e w' => AllV H e w' w.heap.size ∧ Below w.heap.size w w' := by
  have hx := heap_alloc_new w (.cells (handR (rawOf H) fv cv) 26)
  have hb : Below w.heap.size w (w.alloc (.cells (handR (rawOf H) fv cv) 26)) := (Below.refl _ _).alloc (Nat.le_refl _) _
  have hs : (w.alloc (.cells (handR (rawOf H) fv cv) 26)).heap.size = w.heap.size + 1 := by simp
  obtain ⟨g, hg⟩ : ∃ g, w.heap.size = g := ⟨_, rfl⟩
  have HVL := hid hV
  have HRF := hid hrf
  have HRC := hid hrc
  obtain ⟨K, hK⟩ : ∃ K, dep (beginS H) = K := ⟨_, rfl⟩
  have hK5 : K ≤ 8 := by rw [← hK]; exact dep_le8 H hV.hand.ok
  have HK := hid hK
  clear hV hrf hrc
  go_enter Try.func16, Try.ntmps16
  have hq1 : (w.alloc (.cells (handR (rawOf H) fv cv) 26)).heap.size = g + 1 := by rw [hs, hg]
  have hq2 : ((w.alloc (.cells (handR (rawOf H) fv cv) 26)).alloc (.cells #[] 3)).heap.size = g + 1 + 1 := by simp [hg]
  have h1 := Ints.made (w.alloc (.cells (handR (rawOf H) fv cv) 26)) (g + 1) (by omega)
  rw [hq1] at h1
  have hb1 : Below (w.alloc (.cells (handR (rawOf H) fv cv) 26)).heap.size (w.alloc (.cells (handR (rawOf H) fv cv) 26)) ((w.alloc (.cells (handR (rawOf H) fv cv) 26)).alloc (.cells #[] 3)) := (Below.refl _ _).alloc (Nat.le_refl _) _
  have h2 := AO.one ((w.alloc (.cells (handR (rawOf H) fv cv) 26)).alloc (.cells #[] 3)) (g + 1) (by omega) _ _ h1
  have hb2 : Below ((w.alloc (.cells (handR (rawOf H) fv cv) 26)).alloc (.cells #[] 3)).heap.size ((w.alloc (.cells (handR (rawOf H) fv cv) 26)).alloc (.cells #[] 3)) (((w.alloc (.cells (handR (rawOf H) fv cv) 26)).alloc (.cells #[] 3)).alloc (.cells #[.slice (some ⟨g + 1, 0, none⟩) 0 0] 24)) := (Below.refl _ _).alloc (Nat.le_refl _) _
  rw [hq2] at h2 hb2
  rw [hq1] at hb1
  rw [hg] at hx hb
  have HI := hid (AllI.mk (LL := [[]]) ((hb.trans (hb1.mono (by omega))).trans (hb2.mono (by omega))) (heap_below hb2 (heap_below hb1 hx (by omega)) (by omega)) h2)
  clear h1 h2 hb hb1 hb2 hx hq1 hq2 hs
  go_upto_region 3 with fail
  generalize (((w.alloc (.cells (handR (rawOf H) fv cv) 26)).alloc (.cells #[] 3)).alloc (.cells #[.slice (some ⟨g + 1, 0, none⟩) 0 0] 24)) = w3 at HI ⊢
  go_loopw [6, 7] (fun vx ix wr => ∃ (vo : Value) (k : Nat) (Lo : List Value), vo = vx ∧ k ≤ K ∧ ix = .int .i64 ((k : Nat) : Int) ∧ AllI g w H fv cv vo Lo (crs H anyS k (beginS H)) wr ∧ (crs H anyS k (beginS H)).length ≤ 1500) (fun _ ix _ => K - (intOf ix).toNat)
  case atStart => exact ⟨_, 0, _, rfl, by omega, rfl, by rw [crs_zero]; exact HI.out, by rw [crs_zero]; decide⟩
  case round =>
    clear HI
    obtain ⟨vo, k, Lo, rfl, hk, rfl, hI, h15⟩ := hrel
    have HIK := hid hI
    rcases Nat.lt_or_ge k K with hlt | hge
    · have hin : decide (((k : Nat) : Int) < ((K : Nat) : Int)) = true := decide_eq_true (by omega)
      have hin' : ((k : Nat) : Int) < ((K : Nat) : Int) := by omega
      have hi0 : (0 : Int) ≤ ((k : Nat) : Int) := by omega
      have hiw : IntKind.i64.wrap (((k : Nat) : Int) + 1) = ((k + 1 : Nat) : Int) := (IntWalk.i64_in _ (by omega)).trans (by omega)
      obtain ⟨m, hm⟩ : ∃ m, (crs H anyS k (beginS H)).length = m := ⟨_, rfl⟩
      obtain ⟨po, co, hvo⟩ := hI.ao.slice
      rw [intLL_len, hm] at hvo
      subst hvo
      rw [hm] at h15
      have HM := hid hm
      clear hm hI
      go_upto_region 5 with (first
    | (refine wpList_value rfl (by intro c hc; cases hc) (.agg (handR (rawOf H) fv cv)) (exec_ldR rfl rfl HIK.out.hx) ?_)
    | (go_at_call 46; refine (rsteps_c (rawOf H) fv cv wr).mono ?_; rintro e w2 ⟨rfl, hb2⟩; rw [steps_dep H HVL.out.hand.ok HVL.out.hand.bare, HK.out]; have HI2 := hid (HIK.out.below hb2)))
      have hB0 := HI2.out.hx
      have hbn : Below w2.heap.size w2 (w2.alloc (.cells #[] 24)) := (Below.refl _ _).alloc (Nat.le_refl _) _
      have hmade := AO.made w2 w2.heap.size (Nat.le_refl _)
      obtain ⟨B, hB⟩ : ∃ B, w2.heap.size = B := ⟨_, rfl⟩
      rw [hB] at hbn hmade
      have hBs : B ≤ (w2.alloc (.cells #[] 24)).heap.size := by simp [hB]
      have HJ0 := hid (NxtI.mk (LL := []) hbn hBs hmade)
      clear hbn hBs hmade hB0
      go_upto_region 7 with fail
      generalize w2.alloc (.cells #[] 24) = w5 at HJ0 ⊢
      go_loopw [8, 9] (fun vx ix wq => ∃ (vn : Value) (j : Nat) (Ln : List Value), vn = vx ∧ j ≤ m ∧ ix = .int .i64 ((j : Nat) : Int) ∧ NxtI B w2 vn Ln (nxtL H k j) wq ∧ (nxtL H k j).length ≤ 1500) (fun _ ix _ => m - (intOf ix).toNat)
      case atStart => exact ⟨_, 0, _, rfl, by omega, rfl, by rw [nxt_zero]; exact HJ0.out, by rw [nxt_zero]; decide⟩
      case round =>
        clear HJ0
        obtain ⟨vn, j, Ln, rfl, hj, rfl, hJ, hj15⟩ := hrel
        obtain ⟨wq, hwq⟩ : ∃ wq, wq = wr := ⟨_, rfl⟩
        subst hwq
        have HIJ := hid (HI2.out.below (hB ▸ hJ.bel))
        have HJ := hid hJ
        rcases Nat.lt_or_ge j m with hjm | hjm
        · have hjn : decide (((j : Nat) : Int) < ((m : Nat) : Int)) = true := decide_eq_true (by omega)
          have hjn' : ((j : Nat) : Int) < ((m : Nat) : Int) := by omega
          have hj0 : (0 : Int) ≤ ((j : Nat) : Int) := by omega
          have hjw : IntKind.i64.wrap (((j : Nat) : Int) + 1) = ((j + 1 : Nat) : Int) := (IntWalk.i64_in _ (by omega)).trans (by omega)
          have hjL : j < (crs H anyS k (beginS H)).length := by rw [HM.out]; exact hjm
          have hmem : (crs H anyS k (beginS H))[j] ∈ crs H anyS k (beginS H) := List.getElem_mem _
          have hns := nxt_succ H k j hjL
          obtain ⟨bo, u, hpo, hbo, hcu, hel⟩ := HI2.out.ao.elem (i := j) (by rw [intLL_len]; exact hjL)
          rw [intLL_get _ _ _ hjL] at hel
          obtain ⟨p, hp⟩ : ∃ p, (crs H anyS k (beginS H))[j] = p := ⟨_, rfl⟩
          rw [hp] at hmem hns hel
          subst hpo
          obtain ⟨hpl, s, hrs, -⟩ := crs_run H anyS _ _ _ hmem
          have hch : chE H (beginS H) p = chN H s := by unfold chE; rw [hrs]
          have hn2 := brs_small H s (run_fit H _ _ _ (begin_fit H HVL.out.hand.ok) hrs).1
          rw [← hch] at hn2
          have HCH := hid (show ∀ W, Below g w W → Ints W (g + 1) u (intL p) → Calls Try.prog 35 #[.agg (handR (rawOf H) fv cv), u] W fun e w' => e = .returned (.int .i64 ((chE H (beginS H) p : Nat) : Int)) ∧ Below W.heap.size W w' from fun W hW hI => by
            rw [hch]
            exact rchoices_c H HVL.out fv cv p u s hrs W.heap.size W (RawAt.came (HRF.out.below (hg ▸ hW)) (HRC.out.below (hg ▸ hW))) (CrsAt.came hI.readsA))
          obtain ⟨n, hn⟩ : ∃ n, chE H (beginS H) p = n := ⟨_, rfl⟩
          rw [hn] at HCH hn2 hns
          have HEL := hid hel
          have HNS := hid hns
          have hpl8 : p.length ≤ 8 := by omega
          clear hmem hns hel hch hrs hn hp hpl
          have hW0 : Below w2.heap.size w2 wq := hB ▸ hJ.bel
          have hcq : wq.cell? ⟨bo, j, none⟩ = some u := (hW0.cell (p := ⟨bo, j, none⟩) hbo).trans hcu
          have hbq : bo < wq.heap.size := Nat.lt_of_lt_of_le hbo hW0.size
          go_upto_region 9 with fail
          refine grow_vals 5 [27, 28, 29, 30, 31] [(.agg (handR (rawOf H) fv cv)), (.slice (some ⟨bo, 0, none⟩) m co), (.int .i64 ((j : Nat) : Int)), (.pointer (some ⟨bo, j, none⟩)), u] (by kernel_rfl) (by kernel_rfl) ?_ ?_
          · intro j oj hj hoj a' w' hb' he hdep K hK
            have hj' : j = 0 ∨ j = 1 ∨ j = 2 ∨ j = 3 ∨ j = 4 := by omega
            rcases hj' with rfl | rfl | rfl | rfl | rfl
            · obtain rfl := Option.some.inj hoj
              exact wpO_val _ (exec_ldR rfl ((he 2 (by decide)).trans rfl : a'.eval (.tmp 2) = .pointer (some ⟨g, 0, none⟩)) (heap_below hb' HIJ.out.hx (heap_lt HIJ.out.hx))) (hK _ (Below.refl _ _))
            · obtain rfl := Option.some.inj hoj
              exact wpO_val _ (exec_mv rfl ((he 6 (by decide)).trans rfl : a'.eval (.tmp 6) = (.slice (some ⟨bo, 0, none⟩) m co))) (hK _ (Below.refl _ _))
            · obtain rfl := Option.some.inj hoj
              exact wpO_val _ (exec_mv rfl ((he 9 (by decide)).trans rfl : a'.eval (.tmp 9) = (.int .i64 ((j : Nat) : Int)))) (hK _ (Below.refl _ _))
            · obtain rfl := Option.some.inj hoj
              exact wpO_val _ (exec_ixL rfl (hdep ⟨1, .data⟩ (by simp) rfl : a'.eval (.tmp 28) = (.slice (some ⟨bo, 0, none⟩) m co)) (hdep ⟨2, .data⟩ (by simp) rfl : a'.eval (.tmp 29) = (.int .i64 ((j : Nat) : Int))) hjm) (hK _ (Below.refl _ _))
            · obtain rfl := Option.some.inj hoj
              exact wpO_val _ (exec_ldslc rfl (hdep ⟨3, .data⟩ (by simp) rfl : a'.eval (.tmp 30) = (.pointer (some ⟨bo, j, none⟩))) ((hb'.cell (p := ⟨bo, j, none⟩) hbq).trans hcq)) (hK _ (Below.refl _ _))
          · intro w6 hb6
            simp only [puts, Act.put, List.setIfInBounds_toArray, List.set_cons_zero, List.set_cons_succ, List.drop_succ_cons, List.drop_zero, Nat.zero_add, Nat.reduceAdd, List.getD_cons_zero, List.getD_cons_succ]
            have HI6 := hid (HIJ.out.below hb6)
            have HJ6 := hid (HJ.out.below hb6)
            have HE6 := hid ((HEL.out.below hW0).below hb6)
            clear hb6 hcq hbq
            obtain ⟨pn, cn, hvn⟩ := HJ6.out.ao.slice
            rw [intLL_len] at hvn
            obtain ⟨l0, hl0⟩ : ∃ l0, (nxtL H k j).length = l0 := ⟨_, rfl⟩
            rw [hl0] at hvn hj15
            subst hvn
            obtain ⟨z, hz⟩ : ∃ z, l0 + n = z := ⟨_, rfl⟩
            have hzw : IntKind.i64.wrap (((l0 : Nat) : Int) + ((n : Nat) : Int)) = ((z : Nat) : Int) := (IntWalk.i64_in _ (by omega)).trans (by omega)
            by_cases hbig : 1500 < z
            · have hb1 : decide ((1500 : Int) < ((z : Nat) : Int)) = true := decide_eq_true (by omega)
              have hb2 : (1500 : Int) < ((z : Nat) : Int) := by omega
              go_wp2_with (go_at_call 35; refine (HCH.out w6 HI6.out.bel HE6.out).mono ?_; rintro e w7 ⟨rfl, hb7⟩; have HB7 := hid (HI6.out.bel.trans (hb7.mono (Nat.le_of_lt (heap_lt HI6.out.hx)))); have HJ7 := hid (HJ6.out.below hb7); clear hb7)
              go_ret2
              exact ⟨.inl rfl, by rw [hg]; exact HB7.out⟩
            · have hb1 : decide ((1500 : Int) < ((z : Nat) : Int)) = false := decide_eq_false (by omega)
              have hb2 : ¬ (1500 : Int) < ((z : Nat) : Int) := by omega
              go_upto_region 13 with (go_at_call 35; refine (HCH.out w6 HI6.out.bel HE6.out).mono ?_; rintro e w7 ⟨rfl, hb7⟩; have HB7 := hid (HI6.out.bel.trans (hb7.mono (Nat.le_of_lt (heap_lt HI6.out.hx)))); have HJ7 := hid (HJ6.out.below hb7); clear hb7)
              go_loopw [8, 11] (fun vx ix wt => ∃ (vn : Value) (c : Nat) (Lm : List Value), vn = vx ∧ c ≤ n ∧ ix = .int .i64 ((c : Nat) : Int) ∧ NxtI B w2 vn Lm (nxtL H k j ++ (List.range c).map fun c => p ++ [c]) wt) (fun _ ix _ => n - (intOf ix).toNat)
              case atStart => exact ⟨_, 0, _, rfl, by omega, rfl, by rw [List.range_zero, List.map_nil, List.append_nil]; exact HJ7.out⟩
              case round =>
                clear HJ7
                obtain ⟨vm, c, Lm, rfl, hc, rfl, hJm⟩ := hrel
                obtain ⟨wt, hwt⟩ : ∃ wt, wt = wr := ⟨_, rfl⟩
                subst hwt
                have hW : Below w2.heap.size w2 wt := hB ▸ hJm.bel
                rcases Nat.lt_or_ge c n with hcn | hcn
                · have hc1 : decide (((c : Nat) : Int) < ((n : Nat) : Int)) = true := decide_eq_true (by omega)
                  have hc2 : ((c : Nat) : Int) < ((n : Nat) : Int) := by omega
                  have hcw : IntKind.i64.wrap (((c : Nat) : Int) + 1) = ((c + 1 : Nat) : Int) := (IntWalk.i64_in _ (by omega)).trans (by omega)
                  have hal : Below wt.heap.size wt (wt.alloc (.cells #[] 3)) := (Below.refl _ _).alloc (Nat.le_refl _) _
                  have hW1 : Below w2.heap.size w2 (wt.alloc (.cells #[] 3)) := hW.trans (hal.mono hW.size)
                  have hcu3 : (wt.alloc (.cells #[] 3)).cell? ⟨bo, j, none⟩ = some u := (hW1.cell (p := ⟨bo, j, none⟩) hbo).trans hcu
                  have hel3 := (HEL.out.below hW1).readsA
                  have hm45 := Ints.made wt wt.heap.size (Nat.le_refl _)
                  have HJm := hid hJm
                  have HLen := hid (show ((nxtL H k j ++ (List.range c).map fun c => p ++ [c])).length < 1000000000 by simp; omega)
                  clear hW hW1 hJm
                  go_wp2_with (first
    | (refine wpList_plain rfl fun _ hK => wpO_app_ints (.tmp 45) (.tmp 49) rfl wt.heap.size _ [] rfl hm45 u (intL p) rfl hel3 (by rw [intL_len]; simp; omega) (by simp) fun v1 wB hv1 hg1 => hK _ _ ?_; obtain ⟨p1, n1, c1, rfl⟩ := hv1.slice; have hbB : Below wt.heap.size wt wB := hal.trans (grownB hg1 (by simp) (Nat.le_refl _)); rw [List.nil_append] at hv1; have hbB2 : Below wB.heap.size wB (wB.alloc (.cells #[.int .i64 ((c : Nat) : Int)] 3)) := (Below.refl _ _).alloc (Nat.le_refl _) _; have hv1b := hv1.below hbB2; have hk1 := cell_of_row _ wB.heap.size 0 _ _ _ (heap_alloc_new wB (.cells #[.int .i64 ((c : Nat) : Int)] 3)); have hsB := hbB.size; have hbC := hbB.trans (hbB2.mono hsB); have hsC := hbC.size)
    | (refine wpList_plain rfl fun _ hK => wpO_append_int (.tmp 50) (.tmp 52) rfl wt.heap.size _ (intL p) rfl hv1b _ wB.heap.size 1 rfl hk1 (by rw [intL_len]; omega) hsC fun v2 wD hv2 hg2 => hK _ _ ?_; obtain ⟨p2, n2, c2, rfl⟩ := hv2.slice; have hbD := hbC.trans (hv1b.app_below hg2 hsC); have hbD2 : Below wD.heap.size wD (wD.alloc (.cells #[.slice p2 n2 c2] 24)) := (Below.refl _ _).alloc (Nat.le_refl _) _; have hv2b := (hv2.below hbD2).mono HJm.out.le; have hk2 := cell_of_row _ wD.heap.size 0 _ _ _ (heap_alloc_new wD (.cells #[.slice p2 n2 c2] 24)); have hJD := HJm.out.below (hbD.trans (hbD2.mono hbD.size)))
    | (refine wpList_plain rfl fun _ hK => wpO_app_row (.tmp 44) (.tmp 54) rfl B _ Lm _ rfl hJD.ao _ _ hv2b wD.heap.size 1 rfl hk2 (by rw [intLL_len]; exact HLen.out) hJD.le fun v3 wF hv3 hg3 => hK _ _ ?_))
                  go_roundw
                  case rel => exact ⟨_, c + 1, _, rfl, by omega, rfl, (hJD.bel.trans (hJD.ao.app_below hg3 hJD.le)), Nat.le_trans hJD.le hg3.size, by
                    rw [List.range_succ, List.map_append, ← List.append_assoc, intLL_app]
                    have e : intLL (List.map (fun c => p ++ [c]) [c]) = [intL p ++ [((c : Nat) : Int)]] := by simp [intLL, intL]
                    rw [e]
                    exact hv3⟩
                  case measure => simp only [intOf, Int.toNat_natCast]; omega
                · obtain rfl : c = n := by omega
                  have hc1 : decide (((c : Nat) : Int) < ((c : Nat) : Int)) = false := decide_eq_false (by omega)
                  go_wp2_with fail
                  go_roundw
                  case rel => exact ⟨_, j + 1, _, rfl, by omega, rfl, by rw [HNS.out]; exact hJm, by rw [HNS.out]; simp; omega⟩
                  case measure => simp only [intOf, Int.toNat_natCast]; omega
        · obtain rfl : m = j := by omega
          have hjn : decide (((m : Nat) : Int) < ((m : Nat) : Int)) = false := decide_eq_false (by omega)
          have hall := nxt_all H k m (by rw [HM.out]; exact Nat.le_refl _)
          rw [hall] at hJ hj15
          clear HJ
          go_wp2_with fail
          go_roundw
          case rel => exact ⟨_, k + 1, _, rfl, by omega, rfl, ⟨HIJ.out.bel, HIJ.out.hx, hJ.ao.mono (by have := heap_lt HI2.out.hx; omega)⟩, hj15⟩
          case measure => simp only [intOf, Int.toNat_natCast]; omega
    · obtain rfl : k = K := by omega
      have hin : decide (((k : Nat) : Int) < ((k : Nat) : Int)) = false := decide_eq_false (by omega)
      go_wp2_with (first
    | (refine wpList_value rfl (by intro c hc; cases hc) (.agg (handR (rawOf H) fv cv)) (exec_ldR rfl rfl HIK.out.hx) ?_)
    | (go_at_call 46; refine (rsteps_c (rawOf H) fv cv wr).mono ?_; rintro e w2 ⟨rfl, hb2⟩; rw [steps_dep H HVL.out.hand.ok HVL.out.hand.bare, HK.out]; have HI2 := hid (HIK.out.below hb2)))
      go_ret2
      exact ⟨.inr ⟨_, _, rfl, by rw [HK.out]; exact HI2.out.ao.mono (by omega), by rw [HK.out]; exact h15⟩, by rw [hg]; exact HI2.out.bel⟩
end Go.Proofs.Ytmjnelkeiogdcaa
