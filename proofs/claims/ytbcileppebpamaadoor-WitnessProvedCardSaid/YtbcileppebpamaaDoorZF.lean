/- Walk of law 11: WitnessProved. -/
import Derived.Test.YtbcileppebpamaaDoorZE
set_option linter.unusedSimpArgs false
set_option linter.unusedVariables false
namespace Go.Proofs.YtbcileppebpamaaDoor
open Go Go.RowKit Go.Shelf
set_option maxRecDepth 100000

set_option maxHeartbeats 32000000 in
theorem lawProved (bs : List Nat) (u : Value) (wq iq sq : Nat) (w : World) (hr : ReadsU w u bs) (hwq : wq < 256) (hiq : iq < 256) (hsq : sq < 256) (L : LaidW w) (hML : ∃ k, w.cell? ⟨0, 0, none⟩ = some (.int .i64 k)) :
    Calls Tryd.prog 7 #[.agg #[u, .int .u8 ((wq : Nat) : Int), .int .u8 ((iq : Nat) : Int), .int .u8 ((sq : Nat) : Int)]] w fun e w' => e = .returned (.bool true) ∧ Below w.heap.size w w' := by
  obtain ⟨p, cc, rfl⟩ := hr.form
  obtain ⟨m, hm⟩ : ∃ m, bs.length = m := ⟨_, rfl⟩
  have hml : m ≤ 9223372036854775807 := by have := hr.2.1; unfold maxLen at this; omega
  rw [hm]
  have hx := heap_alloc_new w (.cells #[.slice p m cc, .int .u8 ((wq : Nat) : Int), .int .u8 ((iq : Nat) : Int), .int .u8 ((sq : Nat) : Int)] 52)
  have hb : Below w.heap.size w (w.alloc (.cells #[.slice p m cc, .int .u8 ((wq : Nat) : Int), .int .u8 ((iq : Nat) : Int), .int .u8 ((sq : Nat) : Int)] 52)) := (Below.refl _ _).alloc (Nat.le_refl _) _
  have hru := hr
  rw [hm] at hru
  have HRU := hid hru
  have HX := hid hx
  have HB := hid hb
  have HM := hid hm
  have HLL := hid L
  have HML := hid hML
  clear hx hb hr hru hm L hML
  go_enter Tryd.func7, Tryd.ntmps7
  go_upto_region 1 with fail
  generalize w.alloc (.cells #[.slice p m cc, .int .u8 ((wq : Nat) : Int), .int .u8 ((iq : Nat) : Int), .int .u8 ((sq : Nat) : Int)] 52) = W0 at HX HB ⊢
  have k0 := cell_of_row _ _ 0 _ _ _ HX.out
  have k1 := cell_of_row _ _ 1 _ _ _ HX.out
  have k2 := cell_of_row _ _ 2 _ _ _ HX.out
  have k3 := cell_of_row _ _ 3 _ _ _ HX.out
  go_quiet (fail)
  have hb1 : Below w.heap.size w (W0.drewN nq) := HB.out.trans ((below_drewN (Below.refl _ _) nq : Below W0.heap.size W0 (W0.drewN nq)).mono HB.out.size)
  generalize W0.drewN nq = W1 at hb1 ⊢
  have HB1 := hid hb1
  clear k0 k1 k2 k3 HX HB hb1
  by_cases h16 : m < 1 ∨ 6 < m
  · have HK := hid (known_c _ (HLL.out.below HB1.out))
    rcases h16 with h | h
    · have d1 : decide (((m : Nat) : Int) < 1) = true := decide_eq_true (by omega)
      have d2 : decide (m < 1) = true := decide_eq_true h
      clear h
      go_wp2_with (go_at_call 9; refine HK.out.mono ?_; rintro e w2 ⟨rfl, hb2⟩; have HB2 := hid (HB1.out.trans (hb2.mono HB1.out.size)); clear hb2)
      go_ret
      exact ⟨rfl, HB2.out⟩
    · have d1 : decide (((m : Nat) : Int) < 1) = false := decide_eq_false (by omega)
      have d2 : decide (m < 1) = false := decide_eq_false (by omega)
      have d3 : decide ((6 : Int) < ((m : Nat) : Int)) = true := decide_eq_true (by omega)
      have d4 : decide (6 < m) = true := decide_eq_true h
      clear h
      go_wp2_with (go_at_call 9; refine HK.out.mono ?_; rintro e w2 ⟨rfl, hb2⟩; have HB2 := hid (HB1.out.trans (hb2.mono HB1.out.size)); clear hb2)
      go_ret
      exact ⟨rfl, HB2.out⟩
  · have hm16 : 1 ≤ m ∧ m ≤ 6 := by omega
    have d1 : decide (((m : Nat) : Int) < 1) = false := decide_eq_false (by omega)
    have d2 : decide (m < 1) = false := decide_eq_false (by omega)
    have d3 : decide ((6 : Int) < ((m : Nat) : Int)) = false := decide_eq_false (by omega)
    have d4 : decide (6 < m) = false := decide_eq_false (by omega)
    have HL1 := hid (HLL.out.below HB1.out)
    have HN := hid (New_c 256 m (by omega) (by omega) W1 HL1.out)
    clear h16
    go_upto_region 8 with (go_at_call 23; refine HN.out.mono ?_; rintro e w2 ⟨rfl, hd2, hb2⟩; have HD2 := hid (And.intro hd2 hb2); clear hd2 hb2)
    obtain ⟨B, hB⟩ : ∃ B, W1.heap.size = B := ⟨_, rfl⟩
    obtain ⟨bx, hbx⟩ : ∃ bx, B + 1 = bx := ⟨_, rfl⟩
    have hda : DA W1 w2 B bx B (DS.start 256 m) := by
      subst hB hbx
      exact ⟨HD2.out.1, HD2.out.2, Nat.le_refl _, HD2.out.2.size, by omega, Nat.le_refl _⟩
    have hbl : bx < w2.heap.size ∧ B < w2.heap.size := ⟨let ⟨_, h, _⟩ := hda.d.box; heap_lt h, heap_lt hda.d.row⟩
    have hpb := PB.start hda hbl.1 hbl.2
    have e2 : (w2.alloc (.cells #[] 23)).heap.size = w2.heap.size + 1 := by simp
    rw [hB, hbx]
    try rw [e2]
    generalize (w2.alloc (.cells #[] 23)).alloc (.cells #[] 4) = w3 at hpb ⊢
    obtain ⟨B2, hB2⟩ : ∃ B2, w2.heap.size = B2 := ⟨_, rfl⟩
    rw [hB2] at hpb ⊢
    have HPB := hid hpb
    have HS0 := hid (show SL (DS.start 256 m) 256 m (hsF bs sq) (vsF bs) (tF sq wq) 0 (fun _ => False) 0 from ⟨Stt.start _ _ _ _ _, LsG.start 256 m (by omega) (by omega)⟩)
    clear hda hbl hpb e2 hB hbx hB2 HN HD2
    go_wp2_with fail
    go_loopw [9, 10, 11, 12] (fun vb vd sm ix wr => ∃ i : Nat, i ≤ m ∧ ix = .int .i64 ((i : Nat) : Int) ∧ sm = .bool (anyS iq i) ∧ ∃ D, PB W1 wr B bx B B2 D vb vd (bxsF bs sq i) (dvsF wq iq i) ∧ SL D 256 m (hsF bs sq) (vsF bs) (tF sq wq) i (fun _ => False) 0) (fun _ _ _ ix _ => m - (intOf ix).toNat)
    case atStart => exact ⟨0, by omega, rfl, rfl, _, HPB.out, HS0.out⟩
    case round =>
      as_aux_lemma =>
        clear HPB HS0
        obtain ⟨i, hi, rfl, rfl, D, hpb, hst⟩ := hrel
        rcases Nat.lt_or_ge i m with hlt | hge
        · as_aux_lemma =>
            have hin : decide (((i : Nat) : Int) < ((m : Nat) : Int)) = true := decide_eq_true (by omega)
            have hin' : ((i : Nat) : Int) < ((m : Nat) : Int) := by omega
            have hinN : decide (i < m) = true := decide_eq_true hlt
            obtain ⟨i1, hi1⟩ : ∃ i1, i + 1 = i1 := ⟨_, rfl⟩
            have hiw : IntKind.i64.wrap (((i : Nat) : Int) + 1) = ((i1 : Nat) : Int) := (IntWalk.i64_in _ (by omega)).trans (by omega)
            have hiL : i < bs.length := by rw [HM.out]; exact hlt
            obtain ⟨bk, o, hpe, hbk, hc⟩ := HRU.out.at' (i := i) hiL
            have hx256 : bs[i] < 256 := HRU.out.1 _ (List.getElem_mem hiL)
            obtain ⟨x, hx⟩ : ∃ x, vsF bs i = x := ⟨_, rfl⟩
            have hxv : bs[i] = x := by rw [← hx, vsF, List.getD_eq_getElem?_getD, List.getElem?_eq_getElem hiL, Option.getD_some]
            rw [hxv] at hc hx256
            have hid0 : ∀ w', Below wr.heap.size wr w' → w'.cell? ⟨bk, o + i, none⟩ = some (.int .u8 ((x : Nat) : Int)) := fun w' hb' =>
              ((HB1.out.trans ((hpb.da.bw.trans (hb'.mono hpb.da.bw.size)).mono HB1.out.size)).cell (p := ⟨bk, o + i, none⟩) hbk).trans hc
            obtain ⟨si, hsi⟩ : ∃ si, (sq + i) % 256 = si := ⟨_, rfl⟩
            have hsl : si < 256 := by omega
            obtain ⟨tx, htx⟩ : ∃ t, slF sq i = t := ⟨_, rfl⟩
            have HST := hid (fun W => salted_c si hsl W)
            have htx' : sltB si = tx := by rw [← htx, slF, hsi]
            rw [htx'] at HST
            obtain ⟨hx3, hhx⟩ : ∃ h, hsF bs sq i = h := ⟨_, rfl⟩
            have HSL := hid (fun W (hW : Below W1.heap.size W1 W) => by
              have h := box_hash (i + 1) x (by omega) (by omega) tx (by rw [← htx']; exact sltB_salt si) W (HL1.out.below hW)
              rw [show openH ((i + 1 : Nat) : Int) ((x : Nat) : Int) tx = hx3 by rw [← hhx, hsF, hx, htx], hi1] at h
              exact h)
            have HSEAL := hid (fun W D (k : DA W1 W B bx B D) (s : SL D 256 m (hsF bs sq) (vsF bs) (tF sq wq) i (fun _ => False) 0) => by
              have h := da_sealL HL1.out k s (by omega) (by omega) hlt (isHash_openH _ _ _)
              rw [hhx, hi1] at h
              exact h)
            have HPE := hid hpe
            clear hpe
            have HD := hid (And.intro hpb hst)
            have HBX := hid (show bxsF bs sq (i + 1) = bxsF bs sq i ++ [⟨i1, x, tx⟩] by rw [bxsF_succ, bxF, hx, htx, hi1])
            have hwB2 : B2 ≤ wr.heap.size := hpb.le
            have hbB2 : bx < B2 ∧ B < B2 := ⟨hpb.hb, hpb.hq⟩
            clear hpb hst hc hx hxv hhx htx htx' HLL
            go_upto_region 11 with fail
            refine grow_region 14 [70, 71, 72, 73, 74, 75, 76, 77, 78, 79, 80, 81, 82, 13] (by kernel_rfl) (by kernel_rfl) (DK 13 [(.int .i64 ((i : Nat) : Int)), (.int .i64 ((i1 : Nat) : Int)), (.slice p m cc), (.int .i64 ((i : Nat) : Int)), (.pointer (some ⟨bk, o + i, none⟩)), (.int .u8 ((x : Nat) : Int)), (.int .i64 ((x : Nat) : Int)), (.int .u8 ((sq : Nat) : Int)), (.int .i64 ((i : Nat) : Int)), (.int .u8 ((i : Nat) : Int)), (.int .u8 ((si : Nat) : Int)), (.string tx), (.agg #[.int .i64 ((i1 : Nat) : Int), .int .i64 ((x : Nat) : Int), .string tx])] (BoxNew wr.heap.size)) (fun _ _ _ => False) (DK.mono (BoxNew.mono _)) (fun _ _ _ _ _ h => h.elim) ?_ ?_
            · intro jq oj hjq hoj a' w' hb' he hdep K hK
              have c0 := hid0 w' hb'
              rcases (show jq = 0 ∨ jq = 1 ∨ jq = 2 ∨ jq = 3 ∨ jq = 4 ∨ jq = 5 ∨ jq = 6 ∨ jq = 7 ∨ jq = 8 ∨ jq = 9 ∨ jq = 10 ∨ jq = 11 ∨ jq = 12 ∨ jq = 13 by omega) with rfl | rfl | rfl | rfl | rfl | rfl | rfl | rfl | rfl | rfl | rfl | rfl | rfl | rfl
              · obtain rfl := Option.some.inj hoj
                exact wpO_val _ (exec_mv rfl ((he 12 (by decide)).trans rfl : a'.eval (.tmp 12) = (.int .i64 ((i : Nat) : Int)))) (hK _ _ (Below.refl _ _) rfl (fun b h => h.elim))
              · obtain rfl := Option.some.inj hoj
                exact wpO_val _ (exec_addD rfl ((hdep ⟨0, .data⟩ (by simp) rfl : DK _ _ _ 0 _ _) : a'.eval (.tmp 70) = (.int .i64 ((i : Nat) : Int))) rfl hi1 (by omega)) (hK _ _ (Below.refl _ _) rfl (fun b h => h.elim))
              · obtain rfl := Option.some.inj hoj
                exact wpO_val _ (exec_mv rfl ((he 3 (by decide)).trans rfl : a'.eval (.tmp 3) = (.slice p m cc))) (hK _ _ (Below.refl _ _) rfl (fun b h => h.elim))
              · obtain rfl := Option.some.inj hoj
                exact wpO_val _ (exec_mv rfl ((he 12 (by decide)).trans rfl : a'.eval (.tmp 12) = (.int .i64 ((i : Nat) : Int)))) (hK _ _ (Below.refl _ _) rfl (fun b h => h.elim))
              · obtain rfl := Option.some.inj hoj
                exact wpO_val _ (exec_ix8 rfl ((hdep ⟨2, .data⟩ (by simp) rfl : DK _ _ _ 2 _ _) : a'.eval (.tmp 72) = (.slice p m cc)) ((hdep ⟨3, .data⟩ (by simp) rfl : DK _ _ _ 3 _ _) : a'.eval (.tmp 73) = (.int .i64 ((i : Nat) : Int))) HPE.out hlt) (hK _ _ (Below.refl _ _) rfl (fun b h => h.elim))
              · obtain rfl := Option.some.inj hoj
                exact wpO_val _ (exec_ldu8 rfl ((hdep ⟨4, .data⟩ (by simp) rfl : DK _ _ _ 4 _ _) : a'.eval (.tmp 74) = (.pointer (some ⟨bk, o + i, none⟩))) c0) (hK _ _ (Below.refl _ _) rfl (fun b h => h.elim))
              · obtain rfl := Option.some.inj hoj
                exact wpO_val _ (exec_cv8 rfl ((hdep ⟨5, .data⟩ (by simp) rfl : DK _ _ _ 5 _ _) : a'.eval (.tmp 75) = (.int .u8 ((x : Nat) : Int))) hx256) (hK _ _ (Below.refl _ _) rfl (fun b h => h.elim))
              · obtain rfl := Option.some.inj hoj
                exact wpO_val _ (exec_mv rfl ((he 6 (by decide)).trans rfl : a'.eval (.tmp 6) = (.int .u8 ((sq : Nat) : Int)))) (hK _ _ (Below.refl _ _) rfl (fun b h => h.elim))
              · obtain rfl := Option.some.inj hoj
                exact wpO_val _ (exec_mv rfl ((he 12 (by decide)).trans rfl : a'.eval (.tmp 12) = (.int .i64 ((i : Nat) : Int)))) (hK _ _ (Below.refl _ _) rfl (fun b h => h.elim))
              · obtain rfl := Option.some.inj hoj
                exact wpO_val _ (exec_cvU rfl ((hdep ⟨8, .data⟩ (by simp) rfl : DK _ _ _ 8 _ _) : a'.eval (.tmp 78) = (.int .i64 ((i : Nat) : Int))) (by omega)) (hK _ _ (Below.refl _ _) rfl (fun b h => h.elim))
              · obtain rfl := Option.some.inj hoj
                exact wpO_val _ (exec_addU rfl ((hdep ⟨7, .data⟩ (by simp) rfl : DK _ _ _ 7 _ _) : a'.eval (.tmp 77) = (.int .u8 ((sq : Nat) : Int))) ((hdep ⟨9, .data⟩ (by simp) rfl : DK _ _ _ 9 _ _) : a'.eval (.tmp 79) = (.int .u8 ((i : Nat) : Int))) hsi) (hK _ _ (Below.refl _ _) rfl (fun b h => h.elim))
              · obtain rfl := Option.some.inj hoj
                exact wpO_call _ _ (exec_call1 rfl rfl ((hdep ⟨10, .data⟩ (by simp) rfl : DK _ _ _ 10 _ _) : a'.eval (.tmp 80) = (.int .u8 ((si : Nat) : Int))) (by go_simp)) ((HST.out w').mono fun e w'' ⟨h1, h2⟩ => ⟨_, h1, hK _ w'' h2 rfl (fun b h => h.elim)⟩)
              · obtain rfl := Option.some.inj hoj
                exact wpO_val _ (exec_build rfl ((hdep ⟨1, .data⟩ (by simp) rfl : DK _ _ _ 1 _ _) : a'.eval (.tmp 71) = (.int .i64 ((i1 : Nat) : Int))) ((hdep ⟨6, .data⟩ (by simp) rfl : DK _ _ _ 6 _ _) : a'.eval (.tmp 76) = (.int .i64 ((x : Nat) : Int))) ((hdep ⟨11, .data⟩ (by simp) rfl : DK _ _ _ 11 _ _) : a'.eval (.tmp 81) = (.string tx))) (hK _ _ (Below.refl _ _) rfl (fun b h => h.elim))
              · obtain rfl := Option.some.inj hoj
                exact wpO_val _ (exec_allocBox rfl) (hK _ _ ((Below.refl _ _).alloc (Nat.le_refl _) _) ⟨_, hb'.size, rfl, heap_alloc_new w' _⟩ (fun b h => h.elim))
            intro vq w6 hb6 hD _ _
            have hv0 : vq 0 = (.int .i64 ((i : Nat) : Int)) := hD 0 (by omega)
            have hv1 : vq 1 = (.int .i64 ((i1 : Nat) : Int)) := hD 1 (by omega)
            have hv2 : vq 2 = (.slice p m cc) := hD 2 (by omega)
            have hv3 : vq 3 = (.int .i64 ((i : Nat) : Int)) := hD 3 (by omega)
            have hv4 : vq 4 = (.pointer (some ⟨bk, o + i, none⟩)) := hD 4 (by omega)
            have hv5 : vq 5 = (.int .u8 ((x : Nat) : Int)) := hD 5 (by omega)
            have hv6 : vq 6 = (.int .i64 ((x : Nat) : Int)) := hD 6 (by omega)
            have hv7 : vq 7 = (.int .u8 ((sq : Nat) : Int)) := hD 7 (by omega)
            have hv8 : vq 8 = (.int .i64 ((i : Nat) : Int)) := hD 8 (by omega)
            have hv9 : vq 9 = (.int .u8 ((i : Nat) : Int)) := hD 9 (by omega)
            have hv10 : vq 10 = (.int .u8 ((si : Nat) : Int)) := hD 10 (by omega)
            have hv11 : vq 11 = (.string tx) := hD 11 (by omega)
            have hv12 : vq 12 = (.agg #[.int .i64 ((i1 : Nat) : Int), .int .i64 ((x : Nat) : Int), .string tx]) := hD 12 (by omega)
            obtain ⟨z, hzn, hv13, hz⟩ : ∃ z, wr.heap.size ≤ z ∧ vq 13 = .pointer (some ⟨z, 0, none⟩) ∧ w6.heap[z]? = some (.cells #[.int .i64 0, .int .i64 0, .string ⟨#[]⟩] 23 (0, 0)) := hD 13 (by omega)
            simp only [puts, Act.put, List.setIfInBounds_toArray, List.set_cons_zero, List.set_cons_succ, hv0, hv1, hv2, hv3, hv4, hv5, hv6, hv7, hv8, hv9, hv10, hv11, hv12, hv13, List.drop_succ_cons, List.drop_zero, Nat.zero_add, Nat.reduceAdd]
            have HZ := hid hz
            have HB6 := hid hb6
            clear hD hz hb6 hid0 hv0 hv1 hv2 hv3 hv4 hv5 hv6 hv7 hv8 hv9 hv10 hv11 hv12 hv13
            go_upto_region 12 with (refine wpList_store_row rfl 23 (.tmp 13) (.tmp 82) rfl z #[.int .i64 ((i1 : Nat) : Int), .int .i64 ((x : Nat) : Int), .string tx] rfl rfl 23 _ HZ.out (show (Tryd.prog.info? 23).map (·.size) = some 3 by kernel_rfl) rfl (box_one _ _ _) ?_)
            have hz7 : (w6.setRow z #[.int .i64 ((i1 : Nat) : Int), .int .i64 ((x : Nat) : Int), .string tx]).heap[z]? = _ := setRow_at HZ.out
            have hb7 : Below wr.heap.size wr (w6.setRow z #[.int .i64 ((i1 : Nat) : Int), .int .i64 ((x : Nat) : Int), .string tx]) := HB6.out.trans (setRow_below hzn)
            generalize w6.setRow z #[.int .i64 ((i1 : Nat) : Int), .int .i64 ((x : Nat) : Int), .string tx] = w7 at hz7 hb7 ⊢
            have f0 := cell_of_row _ _ 0 _ _ _ hz7
            have f1 := cell_of_row _ _ 1 _ _ _ hz7
            have f2 := cell_of_row _ _ 2 _ _ _ hz7
            have hp7 := HD.out.1.below hb7
            have hzB : B2 ≤ z := Nat.le_trans hwB2 hzn
            have HP7 := hid (And.intro hp7 hz7)
            clear HB6 HZ hz7 hb7 hp7
            go_upto_region 15 with (first
              | (go_at_call 11; refine (HSL.out w7 HP7.out.1.da.bw).mono ?_; rintro e w8 ⟨rfl, hb8⟩; have HP8 := hid (And.intro (HP7.out.1.below hb8) (heap_below hb8 HP7.out.2 (heap_lt HP7.out.2))); clear hb8)
              | (go_at_call 25; refine (HSEAL.out w8 D HP8.out.1.da HD.out.2).mono ?_; rintro e w9 ⟨rfl, D', hs9, hda9, ho9⟩; have hp9 := HP8.out.1.only hda9 ho9; have hz9 := ho9.keep HP8.out.2 (by decide) hzB hbB2.1 hbB2.2; have HP9 := hid hp9; have HS9 := hid hs9; clear hs9 hda9 ho9 hp9))
            clear f0 f1 f2
            have f0 := cell_of_row _ _ 0 _ _ _ hz9
            have f1 := cell_of_row _ _ 1 _ _ _ hz9
            have f2 := cell_of_row _ _ 2 _ _ _ hz9
            clear hz9
            obtain ⟨oq, hoq⟩ : ∃ oq, wq ||| iq = oq := ⟨_, rfl⟩
            have hor : bits .or .u8 ((wq : Nat) : Int) ((iq : Nat) : Int) = ((oq : Nat) : Int) := by rw [u8_or wq iq hwq hiq, hoq]
            have hoq256 : oq < 256 := hoq ▸ Nat.or_lt_two_pow (n := 8) hwq hiq
            obtain ⟨s1, s2, b1, b2, b3, b4, b5⟩ := bit_facts oq i hoq256
            rw [← hoq, dvF_bits] at b3 b4 b5
            have hmin : min i 8 = i := by omega
            have hi0 : ¬ ((i : Nat) : Int) < 0 := by omega
            have hiu : IntKind.u64.wrap ((i : Nat) : Int) = ((i : Nat) : Int) := wrap_natU i (by omega)
            have HLB := hid (show (bxsF bs sq i).length < 100000 by rw [bxsF_len]; omega)
            have HLD := hid (show (dvsF wq iq i).length < 100000 by rw [dvsF_len]; omega)
            go_upto_region 16 with (first
              | (refine wpList_app_box rfl (.tmp 98) (.tmp 100) rfl (HP9.out.below ((Below.refl _ _).alloc (Nat.le_refl _) _)) rfl ⟨i1, x, tx⟩ w9.heap.size 1 rfl (heap_alloc_new w9 _) HLB.out ?_; intro p1 c1 w10 hp10; have HP10 := hid hp10; clear hp10)
              | (refine wpList_app_bool rfl (.tmp 102) (.tmp 111) rfl (HP10.out.below ((Below.refl _ _).alloc (Nat.le_refl _) _)) rfl (dvF wq iq i) w10.heap.size 1 rfl (heap_alloc_new w10 _) HLD.out ?_; intro p2 c2 w11 hp11; have HP11 := hid hp11; clear hp11))
            rw [← HBX.out, ← dvsF_succ, hi1] at HP11
            clear hoq256 hor b1 b2 b3 b4 b5 HLB HLD HP7 HP8 HP9 HP10 f0 f1 f2
            obtain ⟨t1, t2, b1, b2, b3, b4, b5⟩ := bit_facts iq i hiq
            have hany1 : anyS iq i1 = (anyS iq i || iq.testBit i) := by rw [← hi1, anyS]
            have HI1 := hid hi1
            clear hi1
            cases hany : anyS iq i with
            | true =>
              as_aux_lemma =>
                go_wp2_with fail
                go_roundw
                case rel => exact ⟨i1, by have := HI1.out; omega, rfl, by rw [hany1, hany]; rfl, D', HP11.out, HS9.out⟩
                case measure => have := HI1.out; simp only [intOf, Int.toNat_natCast]; omega
            | false =>
              as_aux_lemma =>
                go_wp2_with fail
                go_roundw
                case rel => exact ⟨i1, by have := HI1.out; omega, rfl, by rw [hany1, hany]; rfl, D', HP11.out, HS9.out⟩
                case measure => have := HI1.out; simp only [intOf, Int.toNat_natCast]; omega
        · as_aux_lemma =>
            obtain rfl : m = i := by omega
            have hin : ¬ ((m : Nat) : Int) < ((m : Nat) : Int) := by omega
            have hinN : decide (m < m) = false := decide_eq_false (by omega)
            obtain ⟨p9, c9, rfl⟩ := hpb.formB
            obtain ⟨p10, c10, rfl⟩ := hpb.formD
            rw [bxsF_len, dvsF_len] at hpb ⊢
            obtain ⟨g9, rfl⟩ := hpb.boxP (bxsF_get bs sq m 0 (by omega))
            obtain ⟨g10, rfl⟩ := hpb.boolP (dvsF_get wq iq m 0 (by omega))
            have HD := hid (And.intro hpb (hst.congr (O' := fun j => j < 0 ∧ iq.testBit j = false) fun j _ => ⟨fun h => h.elim, fun h => absurd h.1 (by omega)⟩))
            clear hpb hst hge hi
            go_wp2_with fail
            go_loopw [16] (fun ix wr => ∃ i : Nat, i ≤ m ∧ ix = .int .i64 ((i : Nat) : Int) ∧ ∃ D, PB W1 wr B bx B B2 D (.slice (some ⟨g9, 0, none⟩) m c9) (.slice (some ⟨g10, 0, none⟩) m c10) (bxsF bs sq m) (dvsF wq iq m) ∧ SL D 256 m (hsF bs sq) (vsF bs) (tF sq wq) m (fun j => j < i ∧ iq.testBit j = false) (cntS iq i)) (fun ix _ => m - (intOf ix).toNat)
            case atStart => exact ⟨0, by omega, rfl, _, HD.out.1, HD.out.2⟩
            case round =>
              as_aux_lemma =>
                clear HD hin hinN
                obtain ⟨i, hi, rfl, D, hpb, hst⟩ := hrel
                rcases Nat.lt_or_ge i m with hlt | hge
                · as_aux_lemma =>
                    have hin : decide (((i : Nat) : Int) < ((m : Nat) : Int)) = true := decide_eq_true (by omega)
                    have hin' : ((i : Nat) : Int) < ((m : Nat) : Int) := by omega
                    have hinN : decide (i < m) = true := decide_eq_true hlt
                    have hi0 : (0 : Int) ≤ ((i : Nat) : Int) := by omega
                    have hi0' : ¬ ((i : Nat) : Int) < 0 := by omega
                    obtain ⟨i1, hi1⟩ : ∃ i1, i + 1 = i1 := ⟨_, rfl⟩
                    have hiw : IntKind.i64.wrap (((i : Nat) : Int) + 1) = ((i1 : Nat) : Int) := (IntWalk.i64_in _ (by omega)).trans (by omega)
                    have hmin : min i 8 = i := by omega
                    have hiu : IntKind.u64.wrap ((i : Nat) : Int) = ((i : Nat) : Int) := wrap_natU i (by omega)
                    obtain ⟨t1, t2, b1, b2, b3, b4, b5⟩ := bit_facts iq i hiq
                    have hcs : cntS iq i1 = cntS iq i + (if iq.testBit i then 0 else 1) := by rw [← hi1, cntS]
                    cases hsi : iq.testBit i with
                    | true =>
                      as_aux_lemma =>
                        rw [hsi] at b3 b4 b5 hcs
                        have hst2 := hst.congr (O' := fun j => j < i1 ∧ iq.testBit j = false) fun j _ => ⟨fun h => ⟨by omega, h.2⟩, fun h => ⟨by
                          rcases Nat.lt_or_ge j i with h1 | h1
                          · exact h1
                          · obtain rfl : j = i := by omega
                            rw [hsi] at h
                            exact absurd h.2 (by simp), h.2⟩⟩
                        rw [show cntS iq i = cntS iq i1 from by rw [hcs, if_pos rfl, Nat.add_zero]] at hst2
                        have HD := hid (And.intro hpb hst2)
                        have HI1 := hid hi1
                        clear hpb hst hst2 hcs hi1
                        go_wp2_with fail
                        go_roundw
                        case rel => exact ⟨i1, by have := HI1.out; omega, rfl, D, HD.out.1, HD.out.2⟩
                        case measure => have := HI1.out; simp only [intOf, Int.toNat_natCast]; omega
                    | false =>
                      as_aux_lemma =>
                        rw [hsi] at b3 b4 b5 hcs
                        have hbc := hpb.boxC (bxsF_get bs sq m i hlt)
                        have hg9 : g9 < wr.heap.size := by
                          obtain ⟨g', h1, h2, _⟩ := own_at hpb.bx (i := i) (by rw [bxsF_len]; exact hlt)
                          cases h1
                          exact h2
                        have hx256 : vsF bs i < 256 := by
                          rw [vsF, List.getD_eq_getElem?_getD, List.getElem?_eq_getElem (by rw [HM.out]; exact hlt)]
                          exact HRU.out.1 _ (List.getElem_mem _)
                        have hsalt : slF sq i = sltB ((sq + i) % 256) := rfl
                        obtain ⟨si, hsi2⟩ : ∃ si, (sq + i) % 256 = si := ⟨_, rfl⟩
                        rw [hsi2] at hsalt
                        have htF : tF sq wq i = if wq.testBit i then wrB si else sltB si := by rw [tF, hsalt, hsi2]
                        obtain ⟨x, hx⟩ : ∃ x, vsF bs i = x := ⟨_, rfl⟩
                        have hOP := fun W (k : DA W1 W B bx B D) => da_openL HL1.out k hst (by omega) (by omega) (Nat.lt_of_le_of_lt (cntS_le iq i) hlt) i hlt (fun h => absurd h.1 (by omega)) hx256 (tF_salt sq wq i)
                        simp only [right_open] at hOP
                        have hbc0 : wr.cell? ⟨g9, i * 3, none⟩ = some (.int .i64 ((i1 : Nat) : Int)) := by rw [hbc.1, ← hi1]; rfl
                        have hbc1 : wr.cell? ⟨g9, i * 3 + 1, none⟩ = some (.int .i64 ((x : Nat) : Int)) := by rw [hbc.2.1, ← hx]; rfl
                        have hbc2 : wr.cell? ⟨g9, i * 3 + 2, none⟩ = some (.string (sltB si)) := by rw [hbc.2.2, ← hsalt]; rfl
                        rw [hx, hi1, htF] at hOP
                        have HOP := hid (show ∀ W (k : DA W1 W B bx B D), Calls Tryd.prog 26 #[.pointer (some ⟨bx, 0, none⟩), .agg #[.int .i64 ((i1 : Nat) : Int), .int .i64 ((x : Nat) : Int), .string (if wq.testBit i then wrB si else sltB si)]] W fun e W' => e = .returned (.tuple #[.bool (!wq.testBit i), .int .i64 0]) ∧ ∃ D', SL D' 256 m (hsF bs sq) (vsF bs) (tF sq wq) m (fun j => j < i1 ∧ iq.testBit j = false) (cntS iq i1) ∧ DA W1 W' B bx B D' ∧ OnlyD B bx B W W' from fun W k => (hOP W k).mono fun e W' ⟨h1, D', h2, h3, h4⟩ => ⟨h1, D', (by
                          rw [hcs, if_neg (by simp)]
                          exact h2.congr fun j _ => ⟨fun h => h.elim (fun h => ⟨by omega, h.2⟩) fun h => by rw [h]; exact ⟨by omega, hsi⟩, fun h => (Nat.lt_or_ge j i).elim (fun h1 => .inl ⟨h1, h.2⟩) fun h1 => .inr (by omega)⟩), h3, h4⟩)
                        clear hbc hOP hcs htF hx hsalt hx256
                        have hbB2 : bx < B2 ∧ B < B2 := ⟨hpb.hb, hpb.hq⟩
                        have hwB2 : B2 ≤ wr.heap.size := hpb.le
                        have hdc := hpb.boolC (dvsF_get wq iq m i hlt)
                        rw [dvF, hsi, Bool.or_false] at hdc
                        have HPB := hid hpb
                        have HI1 := hid hi1
                        clear hpb hst hi1 hsi2
                        go_upto_region 22 with (refine wpList_store_row rfl 23 (.tmp 17) (.tmp 137) rfl wr.heap.size #[.int .i64 ((i1 : Nat) : Int), .int .i64 ((x : Nat) : Int), .string (sltB si)] rfl rfl 23 _ (heap_alloc_new wr _) (show (Tryd.prog.info? 23).map (·.size) = some 3 by kernel_rfl) rfl (box_one _ _ _) ?_)
                        have hz7 : ((wr.alloc (.cells #[.int .i64 0, .int .i64 0, .string ⟨#[]⟩] 23)).setRow wr.heap.size #[.int .i64 ((i1 : Nat) : Int), .int .i64 ((x : Nat) : Int), .string (sltB si)]).heap[wr.heap.size]? = _ := setRow_at (heap_alloc_new wr _)
                        have hb7 : Below wr.heap.size wr ((wr.alloc (.cells #[.int .i64 0, .int .i64 0, .string ⟨#[]⟩] 23)).setRow wr.heap.size #[.int .i64 ((i1 : Nat) : Int), .int .i64 ((x : Nat) : Int), .string (sltB si)]) := Below.trans ((Below.refl _ _).alloc (Nat.le_refl _) _) (setRow_below (Nat.le_refl _))
                        generalize (wr.alloc (.cells #[.int .i64 0, .int .i64 0, .string ⟨#[]⟩] 23)).setRow wr.heap.size #[.int .i64 ((i1 : Nat) : Int), .int .i64 ((x : Nat) : Int), .string (sltB si)] = w7 at hz7 hb7 ⊢
                        have hp7 := HPB.out.below hb7
                        obtain ⟨z, hz⟩ : ∃ z, wr.heap.size = z := ⟨_, rfl⟩
                        rw [hz] at hz7 hwB2 hg9 ⊢
                        have HP7 := hid (And.intro hp7 hz7)
                        have hzs : z < w7.heap.size := heap_lt hz7
                        clear hz7 hb7 hp7 hz hbc0 hbc1 hbc2 hdc HPB
                        obtain ⟨t3, t4, e1, e2, e3, e4, e5⟩ := bit_facts wq i hwq
                        cases hw : wq.testBit i with
                        | false =>
                          as_aux_lemma =>
                            have hdv : dvF wq iq i = false := by rw [dvF, hw, hsi]; rfl
                            rw [hw] at e3 e4 e5 HOP
                            simp only [Bool.false_eq_true, if_false, Bool.not_false] at HOP
                            have f0 := cell_of_row _ _ 0 _ _ _ HP7.out.2
                            have f1 := cell_of_row _ _ 1 _ _ _ HP7.out.2
                            have f2 := cell_of_row _ _ 2 _ _ _ HP7.out.2
                            go_upto_region 25 with (go_at_call 26; refine (HOP.out w7 HP7.out.1.da).mono ?_; rintro e w8 ⟨rfl, D', hs8, hda8, ho8⟩; have hp8 := HP7.out.1.only hda8 ho8; have hdc := hp8.boolC (dvsF_get wq iq m i hlt); rw [hdv] at hdc; have HP8 := hid hp8; have HS8 := hid hs8; clear hs8 hda8 ho8 hp8)
                            clear f0 f1 f2 HP7
                            go_wp2_with fail
                            go_roundw
                            case rel => exact ⟨i1, by have := HI1.out; omega, rfl, D', HP8.out, HS8.out⟩
                            case measure => have := HI1.out; simp only [intOf, Int.toNat_natCast]; omega
                        | true =>
                          as_aux_lemma =>
                            have hdv : dvF wq iq i = true := by rw [dvF, hw]; rfl
                            rw [hw] at e3 e4 e5 HOP
                            simp only [if_true, Bool.not_true] at HOP
                            obtain ⟨hd, d, p1, p2, p3, p4, p5, p6, p7⟩ := slt_parts si
                            obtain ⟨tx, htx⟩ : ∃ t, sltB si = t := ⟨_, rfl⟩
                            obtain ⟨ty, hty⟩ : ∃ t, wrB si = t := ⟨_, rfl⟩
                            rw [htx] at p1 p2 p3 HP7
                            rw [hty] at p6 HOP
                            obtain ⟨d2, hd2⟩ : ∃ d2, d ^^^ 1 = d2 := ⟨_, rfl⟩
                            rw [hd2] at p5 p6 p7
                            have hid2 : ∀ w', Below w7.heap.size w7 w' → w'.cell? ⟨z, 2, none⟩ = some (.string tx) := fun w' hb' => (hb'.cell (p := ⟨z, 2, none⟩) hzs).trans (cell_of_row _ _ 2 _ _ _ HP7.out.2)
                            have HSP := hid (And.intro (And.intro p1 p2) (And.intro p3 (And.intro p6 p7)))
                            have HD2 := hid hd2
                            clear p1 p2 p3 p6 p7 hd2 htx hty
                            go_upto_region 23 with fail
                            refine grow_region 11 [144, 145, 146, 147, 148, 149, 150, 151, 152, 153, 154] (by kernel_rfl) (by kernel_rfl) (DK 7 [(.pointer (some ⟨z, 2, none⟩)), (.string tx), (.string hd), (.pointer (some ⟨z, 2, none⟩)), (.string tx), (.int .u8 ((d : Nat) : Int)), (.int .u8 ((d2 : Nat) : Int)), undef, (.string ⟨[UInt8.ofNat d2].toArray⟩), (.string ty), (.pointer (some ⟨z, 2, none⟩))] (BytNew w7.heap.size ((d2 : Nat) : Int))) (fun _ _ _ => False) (DK.mono (BytNew.mono _ _)) (fun _ _ _ _ _ h => h.elim) ?_ ?_
                            · intro jq oj hjq hoj a' w' hb' he hdep K hK
                              have c2 := hid2 w' hb'
                              rcases (show jq = 0 ∨ jq = 1 ∨ jq = 2 ∨ jq = 3 ∨ jq = 4 ∨ jq = 5 ∨ jq = 6 ∨ jq = 7 ∨ jq = 8 ∨ jq = 9 ∨ jq = 10 by omega) with rfl | rfl | rfl | rfl | rfl | rfl | rfl | rfl | rfl | rfl | rfl
                              · obtain rfl := Option.some.inj hoj
                                exact wpO_val _ (exec_fldB2 rfl ((he 17 (by decide)).trans rfl : a'.eval (.tmp 17) = (.pointer (some ⟨z, 0, none⟩)))) (hK _ _ (Below.refl _ _) rfl (fun b h => h.elim))
                              · obtain rfl := Option.some.inj hoj
                                exact wpO_val _ (exec_ldstrB rfl ((hdep ⟨0, .data⟩ (by simp) rfl : DK _ _ _ 0 _ _) : a'.eval (.tmp 144) = (.pointer (some ⟨z, 2, none⟩))) c2) (hK _ _ (Below.refl _ _) rfl (fun b h => h.elim))
                              · obtain rfl := Option.some.inj hoj
                                exact wpO_val _ (exec_slS rfl ((hdep ⟨1, .data⟩ (by simp) rfl : DK _ _ _ 1 _ _) : a'.eval (.tmp 145) = (.string tx)) rfl HSP.out.1.2 HSP.out.1.1) (hK _ _ (Below.refl _ _) rfl (fun b h => h.elim))
                              · obtain rfl := Option.some.inj hoj
                                exact wpO_val _ (exec_fldB2 rfl ((he 17 (by decide)).trans rfl : a'.eval (.tmp 17) = (.pointer (some ⟨z, 0, none⟩)))) (hK _ _ (Below.refl _ _) rfl (fun b h => h.elim))
                              · obtain rfl := Option.some.inj hoj
                                exact wpO_val _ (exec_ldstrB rfl ((hdep ⟨3, .data⟩ (by simp) rfl : DK _ _ _ 3 _ _) : a'.eval (.tmp 147) = (.pointer (some ⟨z, 2, none⟩))) c2) (hK _ _ (Below.refl _ _) rfl (fun b h => h.elim))
                              · obtain rfl := Option.some.inj hoj
                                exact wpO_val _ (exec_ixS (i := 1) rfl ((hdep ⟨4, .data⟩ (by simp) rfl : DK _ _ _ 4 _ _) : a'.eval (.tmp 148) = (.string tx)) rfl HSP.out.2.1) (hK _ _ (Below.refl _ _) rfl (fun b h => h.elim))
                              · obtain rfl := Option.some.inj hoj
                                exact wpO_val _ (exec_xorU rfl ((hdep ⟨5, .data⟩ (by simp) rfl : DK _ _ _ 5 _ _) : a'.eval (.tmp 149) = (.int .u8 ((d : Nat) : Int))) rfl p4 HD2.out) (hK _ _ (Below.refl _ _) rfl (fun b h => h.elim))
                              · obtain rfl := Option.some.inj hoj
                                exact wpO_val _ (exec_bs1 rfl ((hdep ⟨6, .data⟩ (by simp) rfl : DK _ _ _ 6 _ _) : a'.eval (.tmp 150) = (.int .u8 ((d2 : Nat) : Int)))) (hK _ _ ((Below.refl _ _).alloc (Nat.le_refl _) _) ⟨_, hb'.size, rfl, heap_alloc_new w' _⟩ (fun b h => h.elim))
                              · obtain rfl := Option.some.inj hoj
                                obtain ⟨qb, _, hq2, hq3⟩ : BytNew w7.heap.size ((d2 : Nat) : Int) _ w' := hdep ⟨7, .data⟩ (by simp) rfl
                                exact wpO_val _ (exec_cvS rfl hq2 hq3 p5) (hK _ _ (Below.refl _ _) rfl (fun b h => h.elim))
                              · obtain rfl := Option.some.inj hoj
                                exact wpO_val _ (exec_cat rfl ((hdep ⟨2, .data⟩ (by simp) rfl : DK _ _ _ 2 _ _) : a'.eval (.tmp 146) = (.string hd)) ((hdep ⟨8, .data⟩ (by simp) rfl : DK _ _ _ 8 _ _) : a'.eval (.tmp 152) = (.string ⟨[UInt8.ofNat d2].toArray⟩)) HSP.out.2.2.1 HSP.out.2.2.2) (hK _ _ (Below.refl _ _) rfl (fun b h => h.elim))
                              · obtain rfl := Option.some.inj hoj
                                exact wpO_val _ (exec_fldB2 rfl ((he 17 (by decide)).trans rfl : a'.eval (.tmp 17) = (.pointer (some ⟨z, 0, none⟩)))) (hK _ _ (Below.refl _ _) rfl (fun b h => h.elim))
                            intro vq w6 hb6 hD _ _
                            have hv0 : vq 0 = (.pointer (some ⟨z, 2, none⟩)) := hD 0 (by omega)
                            have hv1 : vq 1 = (.string tx) := hD 1 (by omega)
                            have hv2 : vq 2 = (.string hd) := hD 2 (by omega)
                            have hv3 : vq 3 = (.pointer (some ⟨z, 2, none⟩)) := hD 3 (by omega)
                            have hv4 : vq 4 = (.string tx) := hD 4 (by omega)
                            have hv5 : vq 5 = (.int .u8 ((d : Nat) : Int)) := hD 5 (by omega)
                            have hv6 : vq 6 = (.int .u8 ((d2 : Nat) : Int)) := hD 6 (by omega)
                            have hv8 : vq 8 = (.string ⟨[UInt8.ofNat d2].toArray⟩) := hD 8 (by omega)
                            have hv9 : vq 9 = (.string ty) := hD 9 (by omega)
                            have hv10 : vq 10 = (.pointer (some ⟨z, 2, none⟩)) := hD 10 (by omega)
                            obtain ⟨qb, _, hv7, _⟩ : BytNew w7.heap.size ((d2 : Nat) : Int) (vq 7) w6 := hD 7 (by omega)
                            simp only [puts, Act.put, List.setIfInBounds_toArray, List.set_cons_zero, List.set_cons_succ, hv0, hv1, hv2, hv3, hv4, hv5, hv6, hv7, hv8, hv9, hv10, List.drop_succ_cons, List.drop_zero, Nat.zero_add, Nat.reduceAdd]
                            have hz8 := heap_below hb6 HP7.out.2 hzs
                            have hfz := frozen_of_row _ _ 2 _ _ hz8
                            have hk8 := cell_of_row _ _ 2 _ _ _ hz8
                            have HB6 := hid hb6
                            clear hD hb6 hid2 hv0 hv1 hv2 hv3 hv4 hv5 hv6 hv7 hv8 hv9 hv10
                            go_upto_region 24 with fail
                            have hz9 : (w6.setCell ⟨z, 2, none⟩ (.string ty)).heap[z]? = some (.cells #[.int .i64 ((i1 : Nat) : Int), .int .i64 ((x : Nat) : Int), .string ty] 23 (0, 0)) := heap_setCell_same w6 z 2 _ _ (.string ty) hz8
                            have hp9 : PB W1 (w6.setCell ⟨z, 2, none⟩ (.string ty)) B bx B B2 D _ _ _ _ := PB.setCell (HP7.out.1.below HB6.out) hz8 (by decide) (by decide) (by decide) (by decide) hwB2 (fun g n c e => by cases e; omega) 2 (.string ty)
                            have HP9 := hid (And.intro hp9 hz9)
                            generalize w6.setCell ⟨z, 2, none⟩ (.string ty) = w9 at hz9 HP9 ⊢
                            clear hz8 hfz hk8 HB6 HP7 hp9
                            have f0 := cell_of_row _ _ 0 _ _ _ hz9
                            have f1 := cell_of_row _ _ 1 _ _ _ hz9
                            have f2 := cell_of_row _ _ 2 _ _ _ hz9
                            clear hz9
                            go_upto_region 25 with (go_at_call 26; refine (HOP.out w9 HP9.out.1.da).mono ?_; rintro e w8 ⟨rfl, D', hs8, hda8, ho8⟩; have hp8 := HP9.out.1.only hda8 ho8; have hdc := hp8.boolC (dvsF_get wq iq m i hlt); rw [hdv] at hdc; have HP8 := hid hp8; have HS8 := hid hs8; clear hs8 hda8 ho8 hp8)
                            clear f0 f1 f2 HP9
                            go_wp2_with fail
                            go_roundw
                            case rel => exact ⟨i1, by have := HI1.out; omega, rfl, D', HP8.out, HS8.out⟩
                            case measure => have := HI1.out; simp only [intOf, Int.toNat_natCast]; omega
                · as_aux_lemma =>
                    obtain rfl : m = i := by omega
                    have hin : ¬ ((m : Nat) : Int) < ((m : Nat) : Int) := by omega
                    have hinN : decide (m < m) = false := decide_eq_false (by omega)
                    obtain ⟨hrun, bs2, hf⟩ := hst.fin hm16
                    obtain ⟨x, hx⟩ : ∃ x : Int, (if D.running = true then (0 : Int) else 9) = x := ⟨_, rfl⟩
                    have hx0 : (x == 0) = anyS iq m := by rw [← hx, hrun]; cases anyS iq m <;> rfl
                    have hcl := CloseD_c hpb.da.d hpb.da.le hpb.da.hb (by rw [hst.1.ls]; have := cntS_le iq m; omega)
                    rw [hx] at hcl
                    have HCL := hid hcl
                    have HPB := hid hpb
                    have HF := hid hf
                    clear hpb hst hrun hcl hf hx hge hi
                    obtain ⟨sm, hsm⟩ : ∃ sm, anyS iq m = sm := ⟨_, rfl⟩
                    rw [hsm] at hx0 ⊢
                    clear hsm
                    go_upto_region 30 with (go_at_call 27; refine HCL.out.mono ?_; rintro e w4 ⟨rfl, hd4, ho4⟩; have HP4 := hid (HPB.out.only (HPB.out.da.only hd4 ho4) ho4); clear hd4 ho4)
                    obtain ⟨D2, hD2⟩ : ∃ D2, D.close = D2 := ⟨_, rfl⟩
                    rw [hD2] at HF HP4
                    have HDE := hid (fun W (h : DevAt W bx B D2) => Deviants_in h (by rw [HF.out.ps]; omega) (Nat.le_trans (HF.out.devs hm16.2) (by decide)))
                    have HTX := hid (fun W (h : DrawAt W B bx B D2) => TextD_c h HF.out.l1 (by have := HF.out.l14; omega) (by rw [text_join HF.out.ls]; exact Nat.le_trans HF.out.size (by decide)))
                    have HVA := hid (fun W (h : DrawAt W B bx B D2) => Value_c h (by rw [HF.out.ps]; omega) (by rw [HF.out.be]; omega))
                    have HLN := hid (fun (k : Nat) (b : List UInt8) (hb : bs2[k]? = some b) W hW => line_f HF.out hb W hW)
                    obtain ⟨tx, htx⟩ : ∃ t : ByteArray, ⟨D2.text.toArray⟩ = t := ⟨_, rfl⟩
                    rw [htx] at HTX HLN
                    obtain ⟨n, hn⟩ : ∃ n, D2.devs.length = n := ⟨_, rfl⟩
                    have hn6 : n ≤ 6 := hn ▸ HF.out.devs hm16.2
                    clear htx hD2 HCL HPB hx0
                    have HNN := hid hn
                    by_cases hnil : D2.devs = []
                    · as_aux_lemma =>
                        have hE : D2.valE = 0 := by rw [DS.valE, HF.out.ov, hnil]; rfl
                        obtain ⟨vv, hvv⟩ : ∃ v, D2.val = v := ⟨_, rfl⟩
                        rw [hE, hvv] at HVA
                        obtain rfl : 0 = n := by rw [← hn, hnil]; rfl
                        clear hE hvv
                        go_upto_region 33 with (first
                          | (go_at_call 22; refine (HDE.out w4 HP4.out.da.d.dev).mono ?_; rintro e w5 ⟨lv, rfl, hdv, hb5⟩; obtain ⟨pl, cl, rfl⟩ := hdv.form; rw [hn] at hdv ⊢; have HP5 := hid (And.intro (HP4.out.below hb5) hdv); clear hdv hb5)
                          | (go_at_call 28; refine (HTX.out w5 HP5.out.1.da.d).mono ?_; rintro e w6 ⟨rfl, hb6⟩; have HP6 := hid (And.intro (HP5.out.1.below hb6) (HP5.out.2.below hb6)); clear hb6)
                          | (go_at_call 21; refine (HVA.out w6 HP6.out.1.da.d).mono ?_; rintro e w7 ⟨rfl, hb7⟩; have HP7 := hid (And.intro (HP6.out.1.below hb7) (HP6.out.2.below hb7)); clear hb7))
                        clear HP4 HP5 HP6 HDE HTX HVA
                        have HL7 := hid (HL1.out.below HP7.out.1.da.bw)
                        have HM7 := hid (max_below (max_below HML.out HB1.out) HP7.out.1.da.bw)
                        as_aux_lemma =>
                          go_wp2_with fail
                          go_loopw [26, 27] (fun av ix wr => ∃ i : Nat, i ≤ m ∧ ix = .int .i64 ((i : Nat) : Int) ∧ av = .int .i64 (((devFrom D2.cl 0 (D2.ps.take i)).length : Nat) : Int) ∧ Below w7.heap.size w7 wr) (fun _ ix _ => m - (intOf ix).toNat)
                          case atStart => exact ⟨0, by omega, rfl, rfl, Below.refl _ _⟩
                          case round =>
                            as_aux_lemma =>
                              obtain ⟨i, hi, rfl, rfl, hbw⟩ := hrel
                              obtain ⟨a, ha⟩ : ∃ a, (devFrom D2.cl 0 (D2.ps.take i)).length = a := ⟨_, rfl⟩
                              rw [ha]
                              rcases Nat.lt_or_ge i m with hlt | hge
                              · as_aux_lemma =>
                                  have hin : decide (((i : Nat) : Int) < ((m : Nat) : Int)) = true := decide_eq_true (by omega)
                                  have hin' : ((i : Nat) : Int) < ((m : Nat) : Int) := by omega
                                  have hinN : decide (i < m) = true := decide_eq_true hlt
                                  have hi0 : (0 : Int) ≤ ((i : Nat) : Int) := by omega
                                  have hi0' : ¬ ((i : Nat) : Int) < 0 := by omega
                                  obtain ⟨i1, hi1⟩ : ∃ i1, i + 1 = i1 := ⟨_, rfl⟩
                                  have hiw : IntKind.i64.wrap (((i : Nat) : Int) + 1) = ((i1 : Nat) : Int) := (IntWalk.i64_in _ (by omega)).trans (by omega)
                                  have hmin : min i 8 = i := by omega
                                  have hiu : IntKind.u64.wrap ((i : Nat) : Int) = ((i : Nat) : Int) := wrap_natU i (by omega)
                                  obtain ⟨xp, hxp, hcase⟩ := HF.out.dev i hlt
                                  have hdc := (HP7.out.1.below hbw).boolC (dvsF_get wq iq m i hlt)
                                  rcases hcase with ⟨hdv, hno⟩ | ⟨hdv, nn, ll, hsl, hh⟩
                                  · have hdv' : dvF wq iq i = false := hdv
                                    rw [hdv'] at hdc
                                    have hsame := devs_same D2 i xp hxp hno
                                    have HX := hid (And.intro hi1 (And.intro hsame (And.intro ha hbw)))
                                    clear hi1 hsame ha hbw hxp hno hdv hdv'
                                    go_wp2_with fail
                                    go_roundw
                                    case rel => exact ⟨i1, by have := HX.out.1; omega, rfl, by rw [← HX.out.1, HX.out.2.1, HX.out.2.2.1], HX.out.2.2.2⟩
                                    case measure => have := HX.out.1; simp only [intOf, Int.toNat_natCast]; omega
                                  · refine absurd (show D2.devs[(devFrom D2.cl 0 (D2.ps.take i)).length]? = none by rw [hnil]; rfl) ?_
                                    rcases hh with ⟨_, _, h3, _⟩ | ⟨_, h3, _⟩ <;> (rw [devs_at D2 i xp _ hxp h3]; simp)
                              · as_aux_lemma =>
                                  obtain rfl : m = i := by omega
                                  have hin : ¬ ((m : Nat) : Int) < ((m : Nat) : Int) := by omega
                                  have hinN : decide (m < m) = false := decide_eq_false (by omega)
                                  have han : a = 0 := by rw [← ha, ← HF.out.ps, List.take_length]; exact HNN.out
                                  subst han
                                  have HK := hid (known_c _ (HL7.out.below hbw))
                                  have HBW := hid (HB1.out.trans ((HP7.out.1.da.bw.trans (hbw.mono HP7.out.1.da.bw.size)).mono HB1.out.size))
                                  clear hbw ha hge hi
                                  go_wp2_with (go_at_call 9; refine HK.out.mono ?_; rintro e w8 ⟨rfl, hb8⟩; have HB8 := hid (HBW.out.trans (hb8.mono HBW.out.size)); clear hb8)
                                  go_ret
                                  exact ⟨rfl, HB8.out⟩
                    · as_aux_lemma =>
                        have hE : D2.valE = 110 := by rw [DS.valE, HF.out.ov, if_neg hnil]; rfl
                        have hV : D2.val = 0 := by rw [DS.val, if_neg (by rw [hE]; decide)]
                        rw [hE, hV] at HVA
                        have hn1 : 1 ≤ n := by
                          rw [← hn]
                          cases h : D2.devs with
                          | nil => exact absurd h hnil
                          | cons d l => simp
                        have n0 : (((n : Nat) : Int) == 0) = false := by simp; omega
                        have n0N : (n == 0) = false := by simp; omega
                        have n0D : decide (n = 0) = false := by simp; omega
                        clear hE hV
                        go_upto_region 33 with (first
                          | (go_at_call 22; refine (HDE.out w4 HP4.out.da.d.dev).mono ?_; rintro e w5 ⟨lv, rfl, hdv, hb5⟩; obtain ⟨pl, cl, rfl⟩ := hdv.form; rw [hn] at hdv ⊢; have HP5 := hid (And.intro (HP4.out.below hb5) hdv); clear hdv hb5)
                          | (go_at_call 28; refine (HTX.out w5 HP5.out.1.da.d).mono ?_; rintro e w6 ⟨rfl, hb6⟩; have HP6 := hid (And.intro (HP5.out.1.below hb6) (HP5.out.2.below hb6)); clear hb6)
                          | (go_at_call 21; refine (HVA.out w6 HP6.out.1.da.d).mono ?_; rintro e w7 ⟨rfl, hb7⟩; have HP7 := hid (And.intro (HP6.out.1.below hb7) (HP6.out.2.below hb7)); clear hb7))
                        clear HP4 HP5 HP6 HDE HTX HVA
                        have HL7 := hid (HL1.out.below HP7.out.1.da.bw)
                        have HM7 := hid (max_below (max_below HML.out HB1.out) HP7.out.1.da.bw)
                        as_aux_lemma =>
                          go_wp2_with fail
                          go_loopw [26, 27] (fun av ix wr => ∃ i : Nat, i ≤ m ∧ ix = .int .i64 ((i : Nat) : Int) ∧ av = .int .i64 (((devFrom D2.cl 0 (D2.ps.take i)).length : Nat) : Int) ∧ Below w7.heap.size w7 wr) (fun _ ix _ => m - (intOf ix).toNat)
                          case atStart => exact ⟨0, by omega, rfl, rfl, Below.refl _ _⟩
                          case round =>
                            as_aux_lemma =>
                              obtain ⟨i, hi, rfl, rfl, hbw⟩ := hrel
                              obtain ⟨a, ha⟩ : ∃ a, (devFrom D2.cl 0 (D2.ps.take i)).length = a := ⟨_, rfl⟩
                              rw [ha]
                              rcases Nat.lt_or_ge i m with hlt | hge
                              · as_aux_lemma =>
                                  have hin : decide (((i : Nat) : Int) < ((m : Nat) : Int)) = true := decide_eq_true (by omega)
                                  have hin' : ((i : Nat) : Int) < ((m : Nat) : Int) := by omega
                                  have hinN : decide (i < m) = true := decide_eq_true hlt
                                  have hi0 : (0 : Int) ≤ ((i : Nat) : Int) := by omega
                                  have hi0' : ¬ ((i : Nat) : Int) < 0 := by omega
                                  obtain ⟨i1, hi1⟩ : ∃ i1, i + 1 = i1 := ⟨_, rfl⟩
                                  have hiw : IntKind.i64.wrap (((i : Nat) : Int) + 1) = ((i1 : Nat) : Int) := (IntWalk.i64_in _ (by omega)).trans (by omega)
                                  have hmin : min i 8 = i := by omega
                                  have hiu : IntKind.u64.wrap ((i : Nat) : Int) = ((i : Nat) : Int) := wrap_natU i (by omega)
                                  obtain ⟨xp, hxp, hcase⟩ := HF.out.dev i hlt
                                  have hdc := (HP7.out.1.below hbw).boolC (dvsF_get wq iq m i hlt)
                                  rcases hcase with ⟨hdv, hno⟩ | ⟨hdv, nn, ll, hsl, hh⟩
                                  · have hdv' : dvF wq iq i = false := hdv
                                    rw [hdv'] at hdc
                                    have hsame := devs_same D2 i xp hxp hno
                                    have HX := hid (And.intro hi1 (And.intro hsame (And.intro ha hbw)))
                                    clear hi1 hsame ha hbw hxp hno hdv hdv'
                                    go_wp2_with fail
                                    go_roundw
                                    case rel => exact ⟨i1, by have := HX.out.1; omega, rfl, by rw [← HX.out.1, HX.out.2.1, HX.out.2.2.1], HX.out.2.2.2⟩
                                    case measure => have := HX.out.1; simp only [intOf, Int.toNat_natCast]; omega
                                  · have hdv' : dvF wq iq i = true := hdv
                                    rw [hdv'] at hdc
                                    clear hdv hdv'
                                    obtain ⟨n1, hn1'⟩ : ∃ k, nn + 1 = k := ⟨_, rfl⟩
                                    obtain ⟨l1, hl1'⟩ : ∃ k, ll + 1 = k := ⟨_, rfl⟩
                                    rcases hh with ⟨h1, h2, h3, h4⟩ | ⟨h1, h3, h4⟩
                                    · as_aux_lemma =>
                                        obtain ⟨t1, b1, b2⟩ := bit_false iq i hiq h1
                                        rw [hn1', hl1', hi1] at h3
                                        have hget := devs_at D2 i xp _ hxp h3
                                        have hnx := devs_next D2 i xp _ hxp h3
                                        rw [ha] at hget
                                        rw [ha, hi1] at hnx
                                        have han : a < n := HNN.out ▸ (List.getElem?_eq_some_iff.1 hget).1
                                        obtain ⟨gl, cl', hpe, q0, q1, q2, q3⟩ := (HP7.out.2.below hbw).at hget
                                        injection hpe with e1 e2 e3
                                        subst e1
                                        replace q0 : wr.cell? ⟨gl, a * 4, none⟩ = some (.int .i64 ((i1 : Nat) : Int)) := q0
                                        replace q1 : wr.cell? ⟨gl, a * 4 + 1, none⟩ = some (.int .i64 1) := q1
                                        replace q2 : wr.cell? ⟨gl, a * 4 + 2, none⟩ = some (.int .i64 ((n1 : Nat) : Int)) := q2
                                        replace q3 : wr.cell? ⟨gl, a * 4 + 3, none⟩ = some (.int .i64 ((l1 : Nat) : Int)) := q3
                                        obtain ⟨a1, ha1⟩ : ∃ a1, a + 1 = a1 := ⟨_, rfl⟩
                                        rw [ha1] at hnx
                                        have haw : IntKind.i64.wrap (((a : Nat) : Int) + 1) = ((a1 : Nat) : Int) := (IntWalk.i64_in _ (by omega)).trans (by omega)
                                        have hga : decide (((n : Nat) : Int) ≤ ((a : Nat) : Int)) = false := decide_eq_false (by omega)
                                        have hgaN : decide (n ≤ a) = false := decide_eq_false (by omega)
                                        have ha0 : (0 : Int) ≤ ((a : Nat) : Int) := by omega
                                        have han' : ((a : Nat) : Int) < ((n : Nat) : Int) := by omega
                                        obtain ⟨ws1, hws1⟩ : ∃ ws, sealW ((i + 1 : Nat) : Int) (hsF bs sq i) = ws := ⟨_, rfl⟩
                                        obtain ⟨ws2, hws2⟩ : ∃ ws, openW ((i + 1 : Nat) : Int) ((vsF bs i : Nat) : Int) (tF sq wq i) = ws := ⟨_, rfl⟩
                                        have HLN1 := hid (fun W hW => HLN.out nn _ hsl W hW)
                                        have HLN2 := hid (fun W hW => HLN.out ll _ h4 W hW)
                                        rw [hn1'] at HLN1
                                        rw [hl1'] at HLN2
                                        have HSP1 := hid (fun W hW => split_w (sealW ((i + 1 : Nat) : Int) (hsF bs sq i)) (by simp [sealW]) (sealW_no 32 (by decide) (i + 1) _ (isHash_openH _ _ _)) (Nat.le_trans (HF.out.sm _ (List.mem_of_getElem? hsl)) (by decide)) W hW)
                                        have HSP2 := hid (fun W hW => split_w (openW ((i + 1 : Nat) : Int) ((vsF bs i : Nat) : Int) (tF sq wq i)) (by simp [openW]) (openW_no 32 (by decide) (i + 1) _ _ (tF_salt sq wq i)) (Nat.le_trans (HF.out.sm _ (List.mem_of_getElem? h4)) (by decide)) W hW)
                                        obtain ⟨y1, hy1⟩ : ∃ t : ByteArray, ⟨(Lib.join ((sealW ((i + 1 : Nat) : Int) (hsF bs sq i)).map (·.data.toList)) [32]).toArray⟩ = t := ⟨_, rfl⟩
                                        obtain ⟨y2, hy2⟩ : ∃ t : ByteArray, ⟨(Lib.join ((openW ((i + 1 : Nat) : Int) ((vsF bs i : Nat) : Int) (tF sq wq i)).map (·.data.toList)) [32]).toArray⟩ = t := ⟨_, rfl⟩
                                        rw [show (⟨(sealL bs sq i).toArray⟩ : ByteArray) = y1 from hy1] at HLN1
                                        rw [show (⟨(openL bs sq wq i).toArray⟩ : ByteArray) = y2 from hy2] at HLN2
                                        rw [hy1, hws1] at HSP1
                                        rw [hy2, hws2] at HSP2
                                        have HX := hid (And.intro hi1 (And.intro hnx (And.intro hbw (And.intro hws1 hws2))))
                                        have HXP := hid (And.intro h1 h2)
                                        have HBW := hid hbw
                                        clear hi1 hnx ha hxp h3 h4 hget hsl hws1 hws2 hy1 hy2 ha1 hn1' hl1' e2 e3 han hbw h1 h2
                                        go_upto_region 43 with (refine wpList_store_row rfl 66 (.tmp 28) (.tmp 246) rfl wr.heap.size #[.int .i64 ((i1 : Nat) : Int), .int .i64 1, .int .i64 ((n1 : Nat) : Int), .int .i64 ((l1 : Nat) : Int)] rfl rfl 66 _ (heap_alloc_new wr _) (show (Tryd.prog.info? 66).map (·.size) = some 4 by kernel_rfl) rfl (by simp [Value.oneCell']) ?_)
                                        have hz8 : ((wr.alloc (.cells #[.int .i64 0, .int .i64 0, .int .i64 0, .int .i64 0] 66)).setRow wr.heap.size #[.int .i64 ((i1 : Nat) : Int), .int .i64 1, .int .i64 ((n1 : Nat) : Int), .int .i64 ((l1 : Nat) : Int)]).heap[wr.heap.size]? = _ := setRow_at (heap_alloc_new wr _)
                                        have hb8 : Below wr.heap.size wr ((wr.alloc (.cells #[.int .i64 0, .int .i64 0, .int .i64 0, .int .i64 0] 66)).setRow wr.heap.size #[.int .i64 ((i1 : Nat) : Int), .int .i64 1, .int .i64 ((n1 : Nat) : Int), .int .i64 ((l1 : Nat) : Int)]) := Below.trans ((Below.refl _ _).alloc (Nat.le_refl _) _) (setRow_below (Nat.le_refl _))
                                        generalize (wr.alloc (.cells #[.int .i64 0, .int .i64 0, .int .i64 0, .int .i64 0] 66)).setRow wr.heap.size #[.int .i64 ((i1 : Nat) : Int), .int .i64 1, .int .i64 ((n1 : Nat) : Int), .int .i64 ((l1 : Nat) : Int)] = w8 at hz8 hb8 ⊢
                                        have hbx8 := HBW.out.trans (hb8.mono HBW.out.size)
                                        obtain ⟨z, hz⟩ : ∃ z, wr.heap.size = z := ⟨_, rfl⟩
                                        rw [hz] at hz8 ⊢
                                        have hzs := heap_lt hz8
                                        have HW8 := hid (And.intro hz8 hbx8)
                                        have hid8 : ∀ w', Below w8.heap.size w8 w' → w'.cell? ⟨z, 2, none⟩ = some (.int .i64 ((n1 : Nat) : Int)) ∧ w'.cell? ⟨z, 3, none⟩ = some (.int .i64 ((l1 : Nat) : Int)) ∧ ∃ mm, w'.cell? ⟨0, 0, none⟩ = some (.int .i64 mm) := fun w' hb' =>
                                          ⟨(hb'.cell (p := ⟨z, 2, none⟩) hzs).trans (cell_of_row _ _ 2 _ _ _ HW8.out.1), (hb'.cell (p := ⟨z, 3, none⟩) hzs).trans (cell_of_row _ _ 3 _ _ _ HW8.out.1), max_below HM7.out (HW8.out.2.trans (hb'.mono HW8.out.2.size))⟩
                                        clear hz8 hb8 hbx8 hz q0 q1 q2 q3 hdc
                                        as_aux_lemma =>
                                          go_upto_region 44 with fail
                                          as_aux_lemma =>
                                            refine grow_region 10 [249, 250, 251, 252, 253, 254, 255, 256, 257, 258] (by kernel_rfl) (by kernel_rfl) (D44 [(.string tx), (.pointer (some ⟨z, 2, none⟩)), (.int .i64 ((n1 : Nat) : Int)), (.string y1), undef, (.string tx), (.pointer (some ⟨z, 3, none⟩)), (.int .i64 ((l1 : Nat) : Int)), (.string y2), undef] ws1 ws2) (fun _ _ _ => False) (D44.mono _ _ _) (fun _ _ _ _ _ h => h.elim) ?_ ?_
                                            · intro jq oj hjq hoj a' w' hb' he hdep K hK
                                              obtain ⟨c2, c3, cM⟩ := hid8 w' hb'
                                              rcases (show jq = 0 ∨ jq = 1 ∨ jq = 2 ∨ jq = 3 ∨ jq = 4 ∨ jq = 5 ∨ jq = 6 ∨ jq = 7 ∨ jq = 8 ∨ jq = 9 by omega) with rfl | rfl | rfl | rfl | rfl | rfl | rfl | rfl | rfl | rfl
                                              · obtain rfl := Option.some.inj hoj
                                                exact wpO_val _ (exec_mv rfl ((he 22 (by decide)).trans rfl : a'.eval (.tmp 22) = (.string tx))) (hK _ _ (Below.refl _ _) rfl (fun b h => h.elim))
                                              · obtain rfl := Option.some.inj hoj
                                                exact wpO_val _ (exec_fldV 2 rfl ((he 28 (by decide)).trans rfl : a'.eval (.tmp 28) = (.pointer (some ⟨z, 0, none⟩))) (by simp)) (hK _ _ (Below.refl _ _) rfl (fun b h => h.elim))
                                              · obtain rfl := Option.some.inj hoj
                                                exact wpO_val _ (exec_ldcellB rfl ((hdep ⟨1, .data⟩ (by simp) rfl : D44 _ _ _ 1 _ _) : a'.eval (.tmp 250) = (.pointer (some ⟨z, 2, none⟩))) c2) (hK _ _ (Below.refl _ _) rfl (fun b h => h.elim))
                                              · obtain rfl := Option.some.inj hoj
                                                exact wpO_call _ _ (exec_call2 rfl rfl ((hdep ⟨0, .data⟩ (by simp) rfl : D44 _ _ _ 0 _ _) : a'.eval (.tmp 249) = (.string tx)) ((hdep ⟨2, .data⟩ (by simp) rfl : D44 _ _ _ 2 _ _) : a'.eval (.tmp 251) = (.int .i64 ((n1 : Nat) : Int))) (by go_simp)) ((HLN1.out w' cM).mono fun e w'' ⟨h1, h2⟩ => ⟨_, h1, hK _ w'' h2 rfl (fun b h => h.elim)⟩)
                                              · obtain rfl := Option.some.inj hoj
                                                exact wpO_call _ _ (exec_call2 rfl rfl ((hdep ⟨3, .data⟩ (by simp) rfl : D44 _ _ _ 3 _ _) : a'.eval (.tmp 252) = (.string y1)) rfl (by go_simp)) ((HSP1.out w' cM).mono fun e w'' ⟨v, h1, h2, h3⟩ => ⟨v, h1, hK v w'' h3 h2 (fun b h => h.elim)⟩)
                                              · obtain rfl := Option.some.inj hoj
                                                exact wpO_val _ (exec_mv rfl ((he 22 (by decide)).trans rfl : a'.eval (.tmp 22) = (.string tx))) (hK _ _ (Below.refl _ _) rfl (fun b h => h.elim))
                                              · obtain rfl := Option.some.inj hoj
                                                exact wpO_val _ (exec_fldV 3 rfl ((he 28 (by decide)).trans rfl : a'.eval (.tmp 28) = (.pointer (some ⟨z, 0, none⟩))) (by simp)) (hK _ _ (Below.refl _ _) rfl (fun b h => h.elim))
                                              · obtain rfl := Option.some.inj hoj
                                                exact wpO_val _ (exec_ldcellB rfl ((hdep ⟨6, .data⟩ (by simp) rfl : D44 _ _ _ 6 _ _) : a'.eval (.tmp 255) = (.pointer (some ⟨z, 3, none⟩))) c3) (hK _ _ (Below.refl _ _) rfl (fun b h => h.elim))
                                              · obtain rfl := Option.some.inj hoj
                                                exact wpO_call _ _ (exec_call2 rfl rfl ((hdep ⟨5, .data⟩ (by simp) rfl : D44 _ _ _ 5 _ _) : a'.eval (.tmp 254) = (.string tx)) ((hdep ⟨7, .data⟩ (by simp) rfl : D44 _ _ _ 7 _ _) : a'.eval (.tmp 256) = (.int .i64 ((l1 : Nat) : Int))) (by go_simp)) ((HLN2.out w' cM).mono fun e w'' ⟨h1, h2⟩ => ⟨_, h1, hK _ w'' h2 rfl (fun b h => h.elim)⟩)
                                              · obtain rfl := Option.some.inj hoj
                                                exact wpO_call _ _ (exec_call2 rfl rfl ((hdep ⟨8, .data⟩ (by simp) rfl : D44 _ _ _ 8 _ _) : a'.eval (.tmp 257) = (.string y2)) rfl (by go_simp)) ((HSP2.out w' cM).mono fun e w'' ⟨v, h1, h2, h3⟩ => ⟨v, h1, hK v w'' h3 h2 (fun b h => h.elim)⟩)
                                            intro vq w6 hb6 hD _ _
                                            have hv0 : vq 0 = (.string tx) := hD 0 (by omega)
                                            have hv1 : vq 1 = (.pointer (some ⟨z, 2, none⟩)) := hD 1 (by omega)
                                            have hv2 : vq 2 = (.int .i64 ((n1 : Nat) : Int)) := hD 2 (by omega)
                                            have hv3 : vq 3 = (.string y1) := hD 3 (by omega)
                                            have hv5 : vq 5 = (.string tx) := hD 5 (by omega)
                                            have hv6 : vq 6 = (.pointer (some ⟨z, 3, none⟩)) := hD 6 (by omega)
                                            have hv7 : vq 7 = (.int .i64 ((l1 : Nat) : Int)) := hD 7 (by omega)
                                            have hv8 : vq 8 = (.string y2) := hD 8 (by omega)
                                            obtain ⟨g1, hv4, hg1⟩ : StrsAt ws1 (vq 4) w6 := hD 4 (by omega)
                                            obtain ⟨g2, hv9, hg2⟩ : StrsAt ws2 (vq 9) w6 := hD 9 (by omega)
                                            simp only [puts, Act.put, List.setIfInBounds_toArray, List.set_cons_zero, List.set_cons_succ, hv0, hv1, hv2, hv3, hv4, hv5, hv6, hv7, hv8, hv9, List.drop_succ_cons, List.drop_zero, Nat.zero_add, Nat.reduceAdd]
                                            have hz6 := heap_below hb6 HW8.out.1 hzs
                                            have hbx6 := HW8.out.2.trans (hb6.mono HW8.out.2.size)
                                            rw [← HX.out.2.2.2.1] at hg1 ⊢
                                            rw [← HX.out.2.2.2.2] at hg2 ⊢
                                            have HW6 := hid (And.intro (And.intro hz6 hbx6) (And.intro hg1 hg2))
                                            clear hD hb6 hid8 hv0 hv1 hv2 hv3 hv4 hv5 hv6 hv7 hv8 hv9 hz6 hbx6 hg1 hg2 HW8 hzs
                                            as_aux_lemma =>
                                              go_upto_region 45 with fail
                                              rw [show (sealW ((i + 1 : Nat) : Int) (hsF bs sq i)).length = 3 from rfl, show (openW ((i + 1 : Nat) : Int) ((vsF bs i : Nat) : Int) (tF sq wq i)).length = 4 from rfl]
                                              obtain ⟨hs, hj1, hj2⟩ := hash_words (i + 1) (vsF bs i) (by omega) (by
                                                have : vsF bs i < 256 := by
                                                  rw [vsF, List.getD_eq_getElem?_getD, List.getElem?_eq_getElem (by rw [HM.out]; exact hlt)]
                                                  exact HRU.out.1 _ (List.getElem_mem _)
                                                omega) (tF sq wq i) (tF_salt sq wq i) g2 1 3 w6 (HL7.out.below HW6.out.1.2) (fun j y hj => by
                                                  rw [cell_of_row _ _ (1 + j) _ _ _ HW6.out.2.2]
                                                  rcases j with _ | _ | _ | j
                                                  · simp at hj; subst hj; rfl
                                                  · simp at hj; subst hj; rfl
                                                  · simp at hj; subst hj; rfl
                                                  · simp at hj) (heap_lt HW6.out.2.2) (Nat.le_refl 3)
                                              have hne : ((openH ((i + 1 : Nat) : Int) ((vsF bs i : Nat) : Int) (tF sq wq i)).toList == (hsF bs sq i).toList) = false := by
                                                rw [bytes_beq, right_open bs sq wq i, HXP.out.2]
                                                rfl
                                              obtain ⟨hO, hhO⟩ : ∃ t : ByteArray, openH ((i + 1 : Nat) : Int) ((vsF bs i : Nat) : Int) (tF sq wq i) = t := ⟨_, rfl⟩
                                              rw [hhO] at hj2 hne
                                              have HJ := hid (And.intro hj1 hj2)
                                              clear hj1 hj2
                                              go_upto_region 46 with (first
                                                | (go_at_call 31; refine HJ.out.1.mono ?_; rintro e w10 ⟨rfl, hb10⟩; have HB10 := hid hb10; clear hb10)
                                                | (go_at_call 10; refine (HJ.out.2 w10 HB10.out).mono ?_; rintro e w11 ⟨rfl, hb11⟩; have HB11 := hid (HB10.out.trans (hb11.mono HB10.out.size)); clear hb11))
                                              have hg1 := heap_below HB11.out HW6.out.2.1 (heap_lt HW6.out.2.1)
                                              have hg2 := heap_below HB11.out HW6.out.2.2 (heap_lt HW6.out.2.2)
                                              have hz11 := heap_below HB11.out HW6.out.1.1 (heap_lt HW6.out.1.1)
                                              have c10 : w11.cell? ⟨g1, 0, none⟩ = some (.string ⟨#[115, 101, 97, 108]⟩) := cell_of_row _ _ 0 _ _ _ hg1
                                              have c11 : w11.cell? ⟨g1, 1, none⟩ = some (.string ⟨(Lib.itoa ((i + 1 : Nat) : Int)).toArray⟩) := cell_of_row _ _ 1 _ _ _ hg1
                                              have c12 : w11.cell? ⟨g1, 2, none⟩ = some (.string (hsF bs sq i)) := cell_of_row _ _ 2 _ _ _ hg1
                                              have c20 : w11.cell? ⟨g2, 0, none⟩ = some (.string ⟨#[111, 112, 101, 110]⟩) := cell_of_row _ _ 0 _ _ _ hg2
                                              have c21 : w11.cell? ⟨g2, 1, none⟩ = some (.string ⟨(Lib.itoa ((i + 1 : Nat) : Int)).toArray⟩) := cell_of_row _ _ 1 _ _ _ hg2
                                              have cz1 : w11.cell? ⟨z, 1, none⟩ = some (.int .i64 1) := cell_of_row _ _ 1 _ _ _ hz11
                                              obtain ⟨pI, hpI⟩ : ∃ t : ByteArray, ⟨(Lib.itoa ((i + 1 : Nat) : Int)).toArray⟩ = t := ⟨_, rfl⟩
                                              obtain ⟨hS, hhS⟩ : ∃ t : ByteArray, hsF bs sq i = t := ⟨_, rfl⟩
                                              rw [hpI] at c11 c21
                                              rw [hhS] at c12 hne
                                              clear hg1 hg2 hz11 hpI hhO hhS HJ
                                              have HB6 := hid (HW6.out.1.2.trans (HB11.out.mono HW6.out.1.2.size))
                                              clear HW6
                                              as_aux_lemma =>
                                                go_upto_region 48 with fail
                                                as_aux_lemma =>
                                                  dsimp only [List.append]
                                                  go_big_quiet (fail)
                                                  have hb12 : Below w7.heap.size w7 (w11.drewN nq) := HB6.out.trans ((below_drewN (Below.refl _ _) nq : Below w11.heap.size w11 (w11.drewN nq)).mono HB6.out.size)
                                                  generalize w11.drewN nq = w12 at hb12 ⊢
                                                  have HB12 := hid hb12
                                                  clear hb12
                                                  as_aux_lemma =>
                                                    go_wp2_with fail
                                                    go_roundw
                                                    case rel => exact ⟨i1, by have := HX.out.1; omega, rfl, by rw [HX.out.2.1], HB12.out⟩
                                                    case measure => have := HX.out.1; simp only [intOf, Int.toNat_natCast]; omega
                                    · as_aux_lemma =>
                                        obtain ⟨t1, b1, b2⟩ := bit_true iq i hiq h1
                                        rw [hn1', hl1', hi1] at h3
                                        have hget := devs_at D2 i xp _ hxp h3
                                        have hnx := devs_next D2 i xp _ hxp h3
                                        rw [ha] at hget
                                        rw [ha, hi1] at hnx
                                        have han : a < n := HNN.out ▸ (List.getElem?_eq_some_iff.1 hget).1
                                        obtain ⟨gl, cl', hpe, q0, q1, q2, q3⟩ := (HP7.out.2.below hbw).at hget
                                        injection hpe with e1 e2 e3
                                        subst e1
                                        replace q0 : wr.cell? ⟨gl, a * 4, none⟩ = some (.int .i64 ((i1 : Nat) : Int)) := q0
                                        replace q1 : wr.cell? ⟨gl, a * 4 + 1, none⟩ = some (.int .i64 2) := q1
                                        replace q2 : wr.cell? ⟨gl, a * 4 + 2, none⟩ = some (.int .i64 ((n1 : Nat) : Int)) := q2
                                        replace q3 : wr.cell? ⟨gl, a * 4 + 3, none⟩ = some (.int .i64 ((l1 : Nat) : Int)) := q3
                                        obtain ⟨a1, ha1⟩ : ∃ a1, a + 1 = a1 := ⟨_, rfl⟩
                                        rw [ha1] at hnx
                                        have haw : IntKind.i64.wrap (((a : Nat) : Int) + 1) = ((a1 : Nat) : Int) := (IntWalk.i64_in _ (by omega)).trans (by omega)
                                        have hga : decide (((n : Nat) : Int) ≤ ((a : Nat) : Int)) = false := decide_eq_false (by omega)
                                        have hgaN : decide (n ≤ a) = false := decide_eq_false (by omega)
                                        have ha0 : (0 : Int) ≤ ((a : Nat) : Int) := by omega
                                        have han' : ((a : Nat) : Int) < ((n : Nat) : Int) := by omega
                                        obtain ⟨ws1, hws1⟩ : ∃ ws, sealW ((i + 1 : Nat) : Int) (hsF bs sq i) = ws := ⟨_, rfl⟩
                                        obtain ⟨ws2, hws2⟩ : ∃ ws, [wClose] = ws := ⟨_, rfl⟩
                                        have HLN1 := hid (fun W hW => HLN.out nn _ hsl W hW)
                                        have HLN2 := hid (fun W hW => HLN.out ll _ h4 W hW)
                                        rw [hn1'] at HLN1
                                        rw [hl1'] at HLN2
                                        have HSP1 := hid (fun W hW => split_w (sealW ((i + 1 : Nat) : Int) (hsF bs sq i)) (by simp [sealW]) (sealW_no 32 (by decide) (i + 1) _ (isHash_openH _ _ _)) (Nat.le_trans (HF.out.sm _ (List.mem_of_getElem? hsl)) (by decide)) W hW)
                                        have HSP2 := hid (fun W hW => split_w ([wClose]) (by simp [wClose]) (by intro x hx; simp only [List.map_cons, List.map_nil, List.mem_singleton] at hx; subst hx; decide) (Nat.le_trans (HF.out.sm _ (List.mem_of_getElem? h4)) (by decide)) W hW)
                                        obtain ⟨y1, hy1⟩ : ∃ t : ByteArray, ⟨(Lib.join ((sealW ((i + 1 : Nat) : Int) (hsF bs sq i)).map (·.data.toList)) [32]).toArray⟩ = t := ⟨_, rfl⟩
                                        obtain ⟨y2, hy2⟩ : ∃ t : ByteArray, ⟨(Lib.join (([wClose]).map (·.data.toList)) [32]).toArray⟩ = t := ⟨_, rfl⟩
                                        rw [show (⟨(sealL bs sq i).toArray⟩ : ByteArray) = y1 from hy1] at HLN1
                                        rw [show (⟨([99, 108, 111, 115, 101]).toArray⟩ : ByteArray) = y2 from hy2] at HLN2
                                        rw [hy1, hws1] at HSP1
                                        rw [hy2, hws2] at HSP2
                                        have HX := hid (And.intro hi1 (And.intro hnx (And.intro hbw (And.intro hws1 hws2))))
                                        have HXP := hid h1
                                        have HBW := hid hbw
                                        clear hi1 hnx ha hxp h3 h4 hget hsl hws1 hws2 hy1 hy2 ha1 hn1' hl1' e2 e3 han hbw h1
                                        go_upto_region 43 with (refine wpList_store_row rfl 66 (.tmp 28) (.tmp 246) rfl wr.heap.size #[.int .i64 ((i1 : Nat) : Int), .int .i64 2, .int .i64 ((n1 : Nat) : Int), .int .i64 ((l1 : Nat) : Int)] rfl rfl 66 _ (heap_alloc_new wr _) (show (Tryd.prog.info? 66).map (·.size) = some 4 by kernel_rfl) rfl (by simp [Value.oneCell']) ?_)
                                        have hz8 : ((wr.alloc (.cells #[.int .i64 0, .int .i64 0, .int .i64 0, .int .i64 0] 66)).setRow wr.heap.size #[.int .i64 ((i1 : Nat) : Int), .int .i64 2, .int .i64 ((n1 : Nat) : Int), .int .i64 ((l1 : Nat) : Int)]).heap[wr.heap.size]? = _ := setRow_at (heap_alloc_new wr _)
                                        have hb8 : Below wr.heap.size wr ((wr.alloc (.cells #[.int .i64 0, .int .i64 0, .int .i64 0, .int .i64 0] 66)).setRow wr.heap.size #[.int .i64 ((i1 : Nat) : Int), .int .i64 2, .int .i64 ((n1 : Nat) : Int), .int .i64 ((l1 : Nat) : Int)]) := Below.trans ((Below.refl _ _).alloc (Nat.le_refl _) _) (setRow_below (Nat.le_refl _))
                                        generalize (wr.alloc (.cells #[.int .i64 0, .int .i64 0, .int .i64 0, .int .i64 0] 66)).setRow wr.heap.size #[.int .i64 ((i1 : Nat) : Int), .int .i64 2, .int .i64 ((n1 : Nat) : Int), .int .i64 ((l1 : Nat) : Int)] = w8 at hz8 hb8 ⊢
                                        have hbx8 := HBW.out.trans (hb8.mono HBW.out.size)
                                        obtain ⟨z, hz⟩ : ∃ z, wr.heap.size = z := ⟨_, rfl⟩
                                        rw [hz] at hz8 ⊢
                                        have hzs := heap_lt hz8
                                        have HW8 := hid (And.intro hz8 hbx8)
                                        have hid8 : ∀ w', Below w8.heap.size w8 w' → w'.cell? ⟨z, 2, none⟩ = some (.int .i64 ((n1 : Nat) : Int)) ∧ w'.cell? ⟨z, 3, none⟩ = some (.int .i64 ((l1 : Nat) : Int)) ∧ ∃ mm, w'.cell? ⟨0, 0, none⟩ = some (.int .i64 mm) := fun w' hb' =>
                                          ⟨(hb'.cell (p := ⟨z, 2, none⟩) hzs).trans (cell_of_row _ _ 2 _ _ _ HW8.out.1), (hb'.cell (p := ⟨z, 3, none⟩) hzs).trans (cell_of_row _ _ 3 _ _ _ HW8.out.1), max_below HM7.out (HW8.out.2.trans (hb'.mono HW8.out.2.size))⟩
                                        clear hz8 hb8 hbx8 hz q0 q1 q2 q3 hdc
                                        as_aux_lemma =>
                                          go_upto_region 44 with fail
                                          as_aux_lemma =>
                                            refine grow_region 10 [249, 250, 251, 252, 253, 254, 255, 256, 257, 258] (by kernel_rfl) (by kernel_rfl) (D44 [(.string tx), (.pointer (some ⟨z, 2, none⟩)), (.int .i64 ((n1 : Nat) : Int)), (.string y1), undef, (.string tx), (.pointer (some ⟨z, 3, none⟩)), (.int .i64 ((l1 : Nat) : Int)), (.string y2), undef] ws1 ws2) (fun _ _ _ => False) (D44.mono _ _ _) (fun _ _ _ _ _ h => h.elim) ?_ ?_
                                            · intro jq oj hjq hoj a' w' hb' he hdep K hK
                                              obtain ⟨c2, c3, cM⟩ := hid8 w' hb'
                                              rcases (show jq = 0 ∨ jq = 1 ∨ jq = 2 ∨ jq = 3 ∨ jq = 4 ∨ jq = 5 ∨ jq = 6 ∨ jq = 7 ∨ jq = 8 ∨ jq = 9 by omega) with rfl | rfl | rfl | rfl | rfl | rfl | rfl | rfl | rfl | rfl
                                              · obtain rfl := Option.some.inj hoj
                                                exact wpO_val _ (exec_mv rfl ((he 22 (by decide)).trans rfl : a'.eval (.tmp 22) = (.string tx))) (hK _ _ (Below.refl _ _) rfl (fun b h => h.elim))
                                              · obtain rfl := Option.some.inj hoj
                                                exact wpO_val _ (exec_fldV 2 rfl ((he 28 (by decide)).trans rfl : a'.eval (.tmp 28) = (.pointer (some ⟨z, 0, none⟩))) (by simp)) (hK _ _ (Below.refl _ _) rfl (fun b h => h.elim))
                                              · obtain rfl := Option.some.inj hoj
                                                exact wpO_val _ (exec_ldcellB rfl ((hdep ⟨1, .data⟩ (by simp) rfl : D44 _ _ _ 1 _ _) : a'.eval (.tmp 250) = (.pointer (some ⟨z, 2, none⟩))) c2) (hK _ _ (Below.refl _ _) rfl (fun b h => h.elim))
                                              · obtain rfl := Option.some.inj hoj
                                                exact wpO_call _ _ (exec_call2 rfl rfl ((hdep ⟨0, .data⟩ (by simp) rfl : D44 _ _ _ 0 _ _) : a'.eval (.tmp 249) = (.string tx)) ((hdep ⟨2, .data⟩ (by simp) rfl : D44 _ _ _ 2 _ _) : a'.eval (.tmp 251) = (.int .i64 ((n1 : Nat) : Int))) (by go_simp)) ((HLN1.out w' cM).mono fun e w'' ⟨h1, h2⟩ => ⟨_, h1, hK _ w'' h2 rfl (fun b h => h.elim)⟩)
                                              · obtain rfl := Option.some.inj hoj
                                                exact wpO_call _ _ (exec_call2 rfl rfl ((hdep ⟨3, .data⟩ (by simp) rfl : D44 _ _ _ 3 _ _) : a'.eval (.tmp 252) = (.string y1)) rfl (by go_simp)) ((HSP1.out w' cM).mono fun e w'' ⟨v, h1, h2, h3⟩ => ⟨v, h1, hK v w'' h3 h2 (fun b h => h.elim)⟩)
                                              · obtain rfl := Option.some.inj hoj
                                                exact wpO_val _ (exec_mv rfl ((he 22 (by decide)).trans rfl : a'.eval (.tmp 22) = (.string tx))) (hK _ _ (Below.refl _ _) rfl (fun b h => h.elim))
                                              · obtain rfl := Option.some.inj hoj
                                                exact wpO_val _ (exec_fldV 3 rfl ((he 28 (by decide)).trans rfl : a'.eval (.tmp 28) = (.pointer (some ⟨z, 0, none⟩))) (by simp)) (hK _ _ (Below.refl _ _) rfl (fun b h => h.elim))
                                              · obtain rfl := Option.some.inj hoj
                                                exact wpO_val _ (exec_ldcellB rfl ((hdep ⟨6, .data⟩ (by simp) rfl : D44 _ _ _ 6 _ _) : a'.eval (.tmp 255) = (.pointer (some ⟨z, 3, none⟩))) c3) (hK _ _ (Below.refl _ _) rfl (fun b h => h.elim))
                                              · obtain rfl := Option.some.inj hoj
                                                exact wpO_call _ _ (exec_call2 rfl rfl ((hdep ⟨5, .data⟩ (by simp) rfl : D44 _ _ _ 5 _ _) : a'.eval (.tmp 254) = (.string tx)) ((hdep ⟨7, .data⟩ (by simp) rfl : D44 _ _ _ 7 _ _) : a'.eval (.tmp 256) = (.int .i64 ((l1 : Nat) : Int))) (by go_simp)) ((HLN2.out w' cM).mono fun e w'' ⟨h1, h2⟩ => ⟨_, h1, hK _ w'' h2 rfl (fun b h => h.elim)⟩)
                                              · obtain rfl := Option.some.inj hoj
                                                exact wpO_call _ _ (exec_call2 rfl rfl ((hdep ⟨8, .data⟩ (by simp) rfl : D44 _ _ _ 8 _ _) : a'.eval (.tmp 257) = (.string y2)) rfl (by go_simp)) ((HSP2.out w' cM).mono fun e w'' ⟨v, h1, h2, h3⟩ => ⟨v, h1, hK v w'' h3 h2 (fun b h => h.elim)⟩)
                                            intro vq w6 hb6 hD _ _
                                            have hv0 : vq 0 = (.string tx) := hD 0 (by omega)
                                            have hv1 : vq 1 = (.pointer (some ⟨z, 2, none⟩)) := hD 1 (by omega)
                                            have hv2 : vq 2 = (.int .i64 ((n1 : Nat) : Int)) := hD 2 (by omega)
                                            have hv3 : vq 3 = (.string y1) := hD 3 (by omega)
                                            have hv5 : vq 5 = (.string tx) := hD 5 (by omega)
                                            have hv6 : vq 6 = (.pointer (some ⟨z, 3, none⟩)) := hD 6 (by omega)
                                            have hv7 : vq 7 = (.int .i64 ((l1 : Nat) : Int)) := hD 7 (by omega)
                                            have hv8 : vq 8 = (.string y2) := hD 8 (by omega)
                                            obtain ⟨g1, hv4, hg1⟩ : StrsAt ws1 (vq 4) w6 := hD 4 (by omega)
                                            obtain ⟨g2, hv9, hg2⟩ : StrsAt ws2 (vq 9) w6 := hD 9 (by omega)
                                            simp only [puts, Act.put, List.setIfInBounds_toArray, List.set_cons_zero, List.set_cons_succ, hv0, hv1, hv2, hv3, hv4, hv5, hv6, hv7, hv8, hv9, List.drop_succ_cons, List.drop_zero, Nat.zero_add, Nat.reduceAdd]
                                            have hz6 := heap_below hb6 HW8.out.1 hzs
                                            have hbx6 := HW8.out.2.trans (hb6.mono HW8.out.2.size)
                                            rw [← HX.out.2.2.2.1] at hg1 ⊢
                                            rw [← HX.out.2.2.2.2] at hg2 ⊢
                                            have HW6 := hid (And.intro (And.intro hz6 hbx6) (And.intro hg1 hg2))
                                            clear hD hb6 hid8 hv0 hv1 hv2 hv3 hv4 hv5 hv6 hv7 hv8 hv9 hz6 hbx6 hg1 hg2 HW8 hzs
                                            as_aux_lemma =>
                                              go_upto_region 45 with fail
                                              rw [show (sealW ((i + 1 : Nat) : Int) (hsF bs sq i)).length = 3 from rfl, show ([wClose] : List ByteArray).length = 1 from rfl]
                                              have HJ := hid (fun (a : Option Addr) (c : Nat) => strings_Join_none a c ⟨#[58]⟩ w6)
                                              have HH := hid (hash_none w6 (HL7.out.below HW6.out.1.2))
                                              go_upto_region 46 with (first
                                                | (go_at_call 31; refine (HJ.out _ _).mono ?_; rintro e w10 ⟨rfl, rfl⟩)
                                                | (go_at_call 10; refine HH.out.mono ?_; rintro e w11 ⟨⟨hO, rfl⟩, hb11⟩; have HB11 := hid hb11; clear hb11))
                                              have hg1 := heap_below HB11.out HW6.out.2.1 (heap_lt HW6.out.2.1)
                                              have hg2 := heap_below HB11.out HW6.out.2.2 (heap_lt HW6.out.2.2)
                                              have hz11 := heap_below HB11.out HW6.out.1.1 (heap_lt HW6.out.1.1)
                                              have c10 : w11.cell? ⟨g1, 0, none⟩ = some (.string ⟨#[115, 101, 97, 108]⟩) := cell_of_row _ _ 0 _ _ _ hg1
                                              have c20 : w11.cell? ⟨g2, 0, none⟩ = some (.string ⟨#[99, 108, 111, 115, 101]⟩) := cell_of_row _ _ 0 _ _ _ hg2
                                              have cz1 : w11.cell? ⟨z, 1, none⟩ = some (.int .i64 2) := cell_of_row _ _ 1 _ _ _ hz11
                                              clear hg1 hg2 hz11 HJ HH
                                              have HB6 := hid (HW6.out.1.2.trans (HB11.out.mono HW6.out.1.2.size))
                                              clear HW6
                                              as_aux_lemma =>
                                                go_upto_region 48 with fail
                                                as_aux_lemma =>
                                                  dsimp only [List.append]
                                                  go_big_quiet (fail)
                                                  have hb12 : Below w7.heap.size w7 (w11.drewN nq) := HB6.out.trans ((below_drewN (Below.refl _ _) nq : Below w11.heap.size w11 (w11.drewN nq)).mono HB6.out.size)
                                                  generalize w11.drewN nq = w12 at hb12 ⊢
                                                  have HB12 := hid hb12
                                                  clear hb12
                                                  as_aux_lemma =>
                                                    go_wp2_with fail
                                                    go_roundw
                                                    case rel => exact ⟨i1, by have := HX.out.1; omega, rfl, by rw [HX.out.2.1], HB12.out⟩
                                                    case measure => have := HX.out.1; simp only [intOf, Int.toNat_natCast]; omega
                              · as_aux_lemma =>
                                  obtain rfl : m = i := by omega
                                  have hin : ¬ ((m : Nat) : Int) < ((m : Nat) : Int) := by omega
                                  have hinN : decide (m < m) = false := decide_eq_false (by omega)
                                  have han : a = n := by rw [← ha, ← HF.out.ps, List.take_length]; exact HNN.out
                                  subst han
                                  have HK := hid (known_c _ (HL7.out.below hbw))
                                  have HBW := hid (HB1.out.trans ((HP7.out.1.da.bw.trans (hbw.mono HP7.out.1.da.bw.size)).mono HB1.out.size))
                                  clear hbw ha hge hi
                                  go_wp2_with (go_at_call 9; refine HK.out.mono ?_; rintro e w8 ⟨rfl, hb8⟩; have HB8 := hid (HBW.out.trans (hb8.mono HBW.out.size)); clear hb8)
                                  go_ret
                                  exact ⟨rfl, HB8.out⟩
end Go.Proofs.YtbcileppebpamaaDoor
