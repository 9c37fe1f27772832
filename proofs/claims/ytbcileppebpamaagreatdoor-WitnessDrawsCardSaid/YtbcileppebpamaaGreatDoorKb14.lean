/- Lemmas for WitnessDraws: part 14. -/
import Derived.Test.YtbcileppebpamaaGreatDoorKb10
import Derived.Test.YtbcileppebpamaaGreatDoorKb13
set_option linter.unusedSimpArgs false
set_option linter.unusedVariables false
namespace Go.Proofs.YtbcileppebpamaaGreatDoor
open Go Go.RowKit Go.Shelf
set_option maxRecDepth 100000
def devL1 (ls : List RL) (p : Nat) : List Dv :=
  (if (decide (0 < atL 2 ((p : Nat) : Int) ls) && !rightL ((p : Nat) : Int) ls) = true then [⟨p, 1, atL 1 ((p : Nat) : Int) ls, atL 2 ((p : Nat) : Int) ls⟩] else []) ++ (if ((atL 2 ((p : Nat) : Int) ls == 0) && decide (0 < atL 3 0 ls)) = true then [⟨p, 2, atL 1 ((p : Nat) : Int) ls, atL 3 0 ls⟩] else [])
def devL (ls : List RL) : Nat → List Dv
  | 0 => []
  | j + 1 => devL ls j ++ devL1 ls (j + 1)
theorem devL_len (ls : List RL) : ∀ n, (devL ls n).length ≤ 2 * n
  | 0 => Nat.le_refl _
  | n + 1 => by
    have := devL_len ls n
    rw [devL, List.length_append, devL1, List.length_append]
    split <;> split <;> simp <;> omega
theorem DvO.own {W : World} {B : Nat} {v : Value} {ds : List Dv} (h : DvO W B v ds) : ∀ k, v.ownBlock = some k → B ≤ k := fun k hk => by
  rcases h.2 with ⟨rfl, h0⟩ | ⟨g, cap, cur, rfl, h4, _⟩
  · simp [Value.ownBlock] at hk
  · have : g = k := by simpa [Value.ownBlock] using hk
    omega
theorem DvO.made (W : World) (B : Nat) (hB : B ≤ W.heap.size) : DvO (W.alloc (.cells #[] 124)) B (.slice (some ⟨W.heap.size, 0, none⟩) 0 0) [] := World.ownsRow_made W #[] 0 hB (by decide) rfl
set_option maxHeartbeats 8000000 in
theorem rdevs_c (b : Int) (n : Nat) (hn : n ≤ 1000) (v : Value) (ls : List RL) (W : World) (hr : ReadsL W v ls) (hl : ls.length ≤ 1000000) (hok : OkB ls) :
    Calls Tryz.prog 55 #[.agg #[.int .i64 b, .int .i64 ((n : Nat) : Int), v]] W fun e w' => ∃ u, e = .returned u ∧ DvO w' W.heap.size u (devL ls n) ∧ Below W.heap.size W w' := by
  have hx := heap_alloc_new W (.cells #[.int .i64 b, .int .i64 ((n : Nat) : Int), v] 49)
  have hal : Below W.heap.size W (W.alloc (.cells #[.int .i64 b, .int .i64 ((n : Nat) : Int), v] 49)) := (Below.refl _ _).alloc (Nat.le_refl _) _
  have HX := hid (And.intro hx hal)
  have HAT := hid (fun (k p : Int) V (hV : Below W.heap.size W V) => rat_c b ((n : Nat) : Int) v ls k p V (hr.below hV) hl)
  have HRT := hid (fun (p : Int) V (hV : Below W.heap.size W V) => rright_c b ((n : Nat) : Int) p v ls V (hr.below hV) hl hok)
  clear hr hal hx
  go_enter Tryz.func55, Tryz.ntmps55
  go_upto_region 1 with fail
  generalize W.alloc (.cells #[.int .i64 b, .int .i64 ((n : Nat) : Int), v] 49) = W0 at HX ⊢
  obtain ⟨g, hg⟩ : ∃ g, W.heap.size = g := ⟨_, rfl⟩
  rw [hg] at HX ⊢
  have HG := hid hg
  have hgW0 : g + 1 ≤ W0.heap.size := heap_lt HX.out.1
  have hm0 := DvO.made W0 (g + 1) hgW0
  have hal0 : Below (g + 1) W0 (W0.alloc (.cells #[] 124)) := (Below.refl _ _).alloc hgW0 _
  have HM0 := hid (And.intro hm0 hal0)
  clear hg hm0 hal0
  go_upto_region 3 with fail
  go_wp2_with fail
  go_loopw [3, 4] (fun dv px wr => ∃ j : Nat, j ≤ n ∧ px = .int .i64 ((j + 1 : Nat) : Int) ∧ DvO wr (g + 1) dv (devL ls j) ∧ Below (g + 1) W0 wr) (fun _ px _ => n + 1 - (intOf px).toNat)
  case atStart => exact ⟨0, by omega, rfl, HM0.out.1, HM0.out.2⟩
  case round =>
    clear HM0
    obtain ⟨j, hj, rfl, hdv, hb⟩ := hrel
    have hgW : g + 1 ≤ wr.heap.size := Nat.le_trans hgW0 hb.size
    have hr0 := heap_below hb HX.out.1 (Nat.lt_succ_self g)
    have k0 := cell_of_row _ _ 0 _ _ _ hr0
    have k1 := cell_of_row _ _ 1 _ _ _ hr0
    have k2 := cell_of_row _ _ 2 _ _ _ hr0
    have HB := hid hb
    clear hr0
    rcases Nat.lt_or_ge j n with hlt | hge
    · obtain ⟨p, hp⟩ : ∃ p, j + 1 = p := ⟨_, rfl⟩
      have hin : decide (((p : Nat) : Int) ≤ ((n : Nat) : Int)) = true := decide_eq_true (by omega)
      have hinN : decide (p ≤ n) = true := decide_eq_true (by omega)
      have hin' : ((p : Nat) : Int) ≤ ((n : Nat) : Int) := by omega
      have hjw : IntKind.i64.wrap (((p : Nat) : Int) + 1) = ((p + 1 : Nat) : Int) := (IntWalk.i64_in _ (by omega)).trans (by omega)
      obtain ⟨p1, hp1⟩ : ∃ p1, p + 1 = p1 := ⟨_, rfl⟩
      rw [hp1] at hjw
      have HA1 := hid (fun V hV => HAT.out 1 ((p : Nat) : Int) V hV)
      have HA2 := hid (fun V hV => HAT.out 2 ((p : Nat) : Int) V hV)
      have HA3 := hid (fun V hV => HAT.out 3 0 V hV)
      have HRP := hid (fun V hV => HRT.out ((p : Nat) : Int) V hV)
      have hnx : devL ls p = devL ls j ++ devL1 ls p := by rw [← hp, devL]
      have hlen := devL_len ls j
      unfold devL1 at hnx
      obtain ⟨s, hs⟩ : ∃ a, atL 1 ((p : Nat) : Int) ls = a := ⟨_, rfl⟩
      obtain ⟨o, ho⟩ : ∃ a, atL 2 ((p : Nat) : Int) ls = a := ⟨_, rfl⟩
      obtain ⟨z, hz⟩ : ∃ a, atL 3 0 ls = a := ⟨_, rfl⟩
      obtain ⟨r, hrt⟩ : ∃ a, rightL ((p : Nat) : Int) ls = a := ⟨_, rfl⟩
      rw [hs] at HA1 hnx
      rw [ho] at HA2 hnx
      rw [hz] at HA3 hnx
      rw [hrt] at HRP hnx
      rw [hp]
      obtain ⟨dl, hdl⟩ : ∃ d, devL ls j = d := ⟨_, rfl⟩
      rw [hdl] at hnx hlen hdv
      have HLN := hid (show dl.length < 100000 by omega)
      have HNX := hid hnx
      have HDV0 := hid hdv
      have HP := hid (And.intro hp hp1)
      clear hnx hlen hdv hp hp1 hs ho hz hrt hdl hb
      go_upto_region 5 with fail
      refine grow_regionG 8 [15, 16, 17, 18, 19, 20, 21, 22] (by kernel_rfl) (by kernel_rfl) (KV [(.agg #[.int .i64 b, .int .i64 ((n : Nat) : Int), v]), (.int .i64 ((p : Nat) : Int)), (.int .i64 ((s : Nat) : Int)), (.agg #[.int .i64 b, .int .i64 ((n : Nat) : Int), v]), (.int .i64 ((p : Nat) : Int)), (.int .i64 ((o : Nat) : Int)), (.agg #[.int .i64 b, .int .i64 ((n : Nat) : Int), v]), (.int .i64 ((z : Nat) : Int))]) (fun _ _ _ => False) (fun _ _ _ _ _ h => h) (fun _ _ _ _ _ h => h.elim) ?_ ?_
      · intro jq oj hjq hoj a' w' hb' he hdep K hK
        have c0 := heap_below (HB.out.trans (hb'.mono hgW)) HX.out.1 (Nat.lt_succ_self g)
        have cb := HG.out.symm ▸ HX.out.2.trans ((HB.out.trans (hb'.mono hgW)).mono (Nat.le_succ g))
        rcases (show jq = 0 ∨ jq = 1 ∨ jq = 2 ∨ jq = 3 ∨ jq = 4 ∨ jq = 5 ∨ jq = 6 ∨ jq = 7 by omega) with rfl | rfl | rfl | rfl | rfl | rfl | rfl | rfl
        · obtain rfl := Option.some.inj hoj
          exact gG_none rfl (wpO_val _ (exec_ldDr rfl ((he 1 (by decide)).trans rfl : a'.eval (.tmp 1) = (.pointer (some ⟨g, 0, none⟩))) c0) (hK _ _ (Below.refl _ _) rfl (fun b h => h.elim)))
        · obtain rfl := Option.some.inj hoj
          exact gG_none rfl (wpO_val _ (exec_mv rfl ((he 4 (by decide)).trans rfl : a'.eval (.tmp 4) = (.int .i64 ((p : Nat) : Int)))) (hK _ _ (Below.refl _ _) rfl (fun b h => h.elim)))
        · obtain rfl := Option.some.inj hoj
          exact gG_none rfl (wpO_call _ _ (exec_call3 rfl rfl ((hdep ⟨0, .data⟩ (by simp) rfl : (KV [(.agg #[.int .i64 b, .int .i64 ((n : Nat) : Int), v]), (.int .i64 ((p : Nat) : Int)), (.int .i64 ((s : Nat) : Int)), (.agg #[.int .i64 b, .int .i64 ((n : Nat) : Int), v]), (.int .i64 ((p : Nat) : Int)), (.int .i64 ((o : Nat) : Int)), (.agg #[.int .i64 b, .int .i64 ((n : Nat) : Int), v]), (.int .i64 ((z : Nat) : Int))]) 0 _ _) : a'.eval (.tmp 15) = (.agg #[.int .i64 b, .int .i64 ((n : Nat) : Int), v])) rfl ((hdep ⟨1, .data⟩ (by simp) rfl : (KV [(.agg #[.int .i64 b, .int .i64 ((n : Nat) : Int), v]), (.int .i64 ((p : Nat) : Int)), (.int .i64 ((s : Nat) : Int)), (.agg #[.int .i64 b, .int .i64 ((n : Nat) : Int), v]), (.int .i64 ((p : Nat) : Int)), (.int .i64 ((o : Nat) : Int)), (.agg #[.int .i64 b, .int .i64 ((n : Nat) : Int), v]), (.int .i64 ((z : Nat) : Int))]) 1 _ _) : a'.eval (.tmp 16) = (.int .i64 ((p : Nat) : Int))) (by go_simp)) ((HA1.out w' cb).mono fun e w'' ⟨h1, h2⟩ => ⟨_, h1, hK _ w'' h2 rfl (fun b h => h.elim)⟩))
        · obtain rfl := Option.some.inj hoj
          exact gG_none rfl (wpO_val _ (exec_ldDr rfl ((he 1 (by decide)).trans rfl : a'.eval (.tmp 1) = (.pointer (some ⟨g, 0, none⟩))) c0) (hK _ _ (Below.refl _ _) rfl (fun b h => h.elim)))
        · obtain rfl := Option.some.inj hoj
          exact gG_none rfl (wpO_val _ (exec_mv rfl ((he 4 (by decide)).trans rfl : a'.eval (.tmp 4) = (.int .i64 ((p : Nat) : Int)))) (hK _ _ (Below.refl _ _) rfl (fun b h => h.elim)))
        · obtain rfl := Option.some.inj hoj
          exact gG_none rfl (wpO_call _ _ (exec_call3 rfl rfl ((hdep ⟨3, .data⟩ (by simp) rfl : (KV [(.agg #[.int .i64 b, .int .i64 ((n : Nat) : Int), v]), (.int .i64 ((p : Nat) : Int)), (.int .i64 ((s : Nat) : Int)), (.agg #[.int .i64 b, .int .i64 ((n : Nat) : Int), v]), (.int .i64 ((p : Nat) : Int)), (.int .i64 ((o : Nat) : Int)), (.agg #[.int .i64 b, .int .i64 ((n : Nat) : Int), v]), (.int .i64 ((z : Nat) : Int))]) 3 _ _) : a'.eval (.tmp 18) = (.agg #[.int .i64 b, .int .i64 ((n : Nat) : Int), v])) rfl ((hdep ⟨4, .data⟩ (by simp) rfl : (KV [(.agg #[.int .i64 b, .int .i64 ((n : Nat) : Int), v]), (.int .i64 ((p : Nat) : Int)), (.int .i64 ((s : Nat) : Int)), (.agg #[.int .i64 b, .int .i64 ((n : Nat) : Int), v]), (.int .i64 ((p : Nat) : Int)), (.int .i64 ((o : Nat) : Int)), (.agg #[.int .i64 b, .int .i64 ((n : Nat) : Int), v]), (.int .i64 ((z : Nat) : Int))]) 4 _ _) : a'.eval (.tmp 19) = (.int .i64 ((p : Nat) : Int))) (by go_simp)) ((HA2.out w' cb).mono fun e w'' ⟨h1, h2⟩ => ⟨_, h1, hK _ w'' h2 rfl (fun b h => h.elim)⟩))
        · obtain rfl := Option.some.inj hoj
          exact gG_none rfl (wpO_val _ (exec_ldDr rfl ((he 1 (by decide)).trans rfl : a'.eval (.tmp 1) = (.pointer (some ⟨g, 0, none⟩))) c0) (hK _ _ (Below.refl _ _) rfl (fun b h => h.elim)))
        · obtain rfl := Option.some.inj hoj
          exact gG_none rfl (wpO_call _ _ (exec_call3 rfl rfl ((hdep ⟨6, .data⟩ (by simp) rfl : (KV [(.agg #[.int .i64 b, .int .i64 ((n : Nat) : Int), v]), (.int .i64 ((p : Nat) : Int)), (.int .i64 ((s : Nat) : Int)), (.agg #[.int .i64 b, .int .i64 ((n : Nat) : Int), v]), (.int .i64 ((p : Nat) : Int)), (.int .i64 ((o : Nat) : Int)), (.agg #[.int .i64 b, .int .i64 ((n : Nat) : Int), v]), (.int .i64 ((z : Nat) : Int))]) 6 _ _) : a'.eval (.tmp 21) = (.agg #[.int .i64 b, .int .i64 ((n : Nat) : Int), v])) rfl rfl (by go_simp)) ((HA3.out w' cb).mono fun e w'' ⟨h1, h2⟩ => ⟨_, h1, hK _ w'' h2 rfl (fun b h => h.elim)⟩))
      intro vq w6 hb6 hD _ _
      have hv0 : vq 0 = (.agg #[.int .i64 b, .int .i64 ((n : Nat) : Int), v]) := hD 0 (by omega)
      have hv1 : vq 1 = (.int .i64 ((p : Nat) : Int)) := hD 1 (by omega)
      have hv2 : vq 2 = (.int .i64 ((s : Nat) : Int)) := hD 2 (by omega)
      have hv3 : vq 3 = (.agg #[.int .i64 b, .int .i64 ((n : Nat) : Int), v]) := hD 3 (by omega)
      have hv4 : vq 4 = (.int .i64 ((p : Nat) : Int)) := hD 4 (by omega)
      have hv5 : vq 5 = (.int .i64 ((o : Nat) : Int)) := hD 5 (by omega)
      have hv6 : vq 6 = (.agg #[.int .i64 b, .int .i64 ((n : Nat) : Int), v]) := hD 6 (by omega)
      have hv7 : vq 7 = (.int .i64 ((z : Nat) : Int)) := hD 7 (by omega)
      simp only [puts, Act.put, List.setIfInBounds_toArray, List.set_cons_zero, List.set_cons_succ, hv0, hv1, hv2, hv3, hv4, hv5, hv6, hv7, List.drop_succ_cons, List.drop_zero, Nat.zero_add, Nat.reduceAdd]
      have hb7 : Below (g + 1) W0 w6 := HB.out.trans (hb6.mono hgW)
      have HDV := hid (HDV0.out.below hb6)
      generalize w6 = w7 at hb7 HDV ⊢
      have hr7 := heap_below hb7 HX.out.1 (Nat.lt_succ_self g)
      clear k0 k1 k2
      have k0 := cell_of_row _ _ 0 _ _ _ hr7
      have k1 := cell_of_row _ _ 1 _ _ _ hr7
      have k2 := cell_of_row _ _ 2 _ _ _ hr7
      have HB7 := hid hb7
      have hcall := HRP.out w7 (HG.out.symm ▸ HX.out.2.trans (hb7.mono (Nat.le_succ g)))
      have HRC := hid hcall
      clear hD hb6 hb7 hr7 hcall hv0 hv1 hv2 hv3 hv4 hv5 hv6 hv7 HDV0
      by_cases ho0 : 0 < o
      · have e1 : decide ((0 : Int) < ((o : Nat) : Int)) = true := decide_eq_true (by omega)
        have e2 : decide (0 < o) = true := decide_eq_true ho0
        have e3 : (((o : Nat) : Int) == 0) = false := by simp; omega
        have e4 : (o == 0) = false := by simp; omega
        have e5 : decide (o = 0) = false := by simp; omega
        cases r with
        | true =>
          have hn2 : devL ls p = dl := by rw [HNX.out, e2, e4]; simp
          have HN2 := hid hn2
          clear hn2 ho0
          go_wp2_with (go_at_call 21; refine HRC.out.mono ?_; rintro e w8 ⟨rfl, hb8⟩; have HD9 := hid (HDV.out.below hb8); have HB9 := hid (HB7.out.trans (hb8.mono (Nat.le_trans hgW0 HB7.out.size))); clear hb8)
          go_roundw
          case rel => exact ⟨p, by have := HP.out; omega, by rw [← HP.out.2], by rw [HN2.out]; exact HD9.out, HB9.out⟩
          case measure => have := HP.out; simp only [intOf, Int.toNat_natCast]; omega
        | false =>
          have hn2 : devL ls p = dl ++ [⟨p, 1, s, o⟩] := by rw [HNX.out, e2, e4]; simp
          have HN2 := hid hn2
          clear hn2 ho0
          go_wp2_with (first
            | (go_at_call 21; refine HRC.out.mono ?_; rintro e w8 ⟨rfl, hb8⟩; have hdv8 := HDV.out.below hb8; clear HDV; have HDV := hid hdv8; have HBW := hid (HB7.out.trans (hb8.mono (Nat.le_trans hgW0 HB7.out.size))); clear hb8 hdv8)
            | (refine wpList_plain rfl fun _ hK => wpO_app_dev (.tmp 31) (.tmp 36) rfl (g + 1) _ _ rfl (HDV.out.below ((Below.refl _ _).alloc (Nat.le_refl _) _)) ⟨p, 1, s, o⟩ w8.heap.size 1 rfl (heap_alloc_new w8 _) HLN.out (by rw [World.size_alloc]; have := HBW.out.size; omega) fun v' w' hv' hg' => hK _ _ ?_; have HD9 := hid hv'; have HB9 := hid ((HBW.out.alloc (Nat.le_trans hgW0 HBW.out.size) _).grown hg' (by rw [World.size_alloc]; have := HBW.out.size; omega) HDV.out.own); clear hv' hg' hK))
          go_roundw
          case rel => exact ⟨p, by have := HP.out; omega, by rw [← HP.out.2], by rw [HN2.out]; exact HD9.out, HB9.out⟩
          case measure => have := HP.out; simp only [intOf, Int.toNat_natCast]; omega
      · have e1 : decide ((0 : Int) < ((o : Nat) : Int)) = false := decide_eq_false (by omega)
        have e2 : decide (0 < o) = false := decide_eq_false ho0
        obtain rfl : o = 0 := by omega
        by_cases hz0 : 0 < z
        · have e3 : decide ((0 : Int) < ((z : Nat) : Int)) = true := decide_eq_true (by omega)
          have e4 : decide (0 < z) = true := decide_eq_true hz0
          have hn2 : devL ls p = dl ++ [⟨p, 2, s, z⟩] := by rw [HNX.out, e4]; simp
          have HN2 := hid hn2
          have HBW := hid HB7.out
          clear hn2 ho0 hz0
          go_wp2_with (refine wpList_plain rfl fun _ hK => wpO_app_dev (.tmp 44) (.tmp 49) rfl (g + 1) _ _ rfl (HDV.out.below ((Below.refl _ _).alloc (Nat.le_refl _) _)) ⟨p, 2, s, z⟩ w7.heap.size 1 rfl (heap_alloc_new w7 _) HLN.out (by rw [World.size_alloc]; have := HBW.out.size; omega) fun v' w' hv' hg' => hK _ _ ?_; have HD9 := hid hv'; have HB9 := hid ((HBW.out.alloc (Nat.le_trans hgW0 HBW.out.size) _).grown hg' (by rw [World.size_alloc]; have := HBW.out.size; omega) HDV.out.own); clear hv' hg' hK)
          go_roundw
          case rel => exact ⟨p, by have := HP.out; omega, by rw [← HP.out.2], by rw [HN2.out]; exact HD9.out, HB9.out⟩
          case measure => have := HP.out; simp only [intOf, Int.toNat_natCast]; omega
        · have e3 : decide ((0 : Int) < ((z : Nat) : Int)) = false := decide_eq_false (by omega)
          have e4 : decide (0 < z) = false := decide_eq_false hz0
          have hn2 : devL ls p = dl := by rw [HNX.out, e4]; simp
          have HN2 := hid hn2
          clear hn2 ho0 hz0
          go_wp2_with fail
          go_roundw
          case rel => exact ⟨p, by have := HP.out; omega, by rw [← HP.out.2], by rw [HN2.out]; exact HDV.out, HB7.out⟩
          case measure => have := HP.out; simp only [intOf, Int.toNat_natCast]; omega
    · obtain rfl : j = n := by omega
      have hin : ¬ ((j + 1 : Nat) : Int) ≤ ((j : Nat) : Int) := by omega
      have hinD : decide (((j + 1 : Nat) : Int) ≤ ((j : Nat) : Int)) = false := decide_eq_false hin
      have hinN : decide (j + 1 ≤ j) = false := decide_eq_false (by omega)
      have HDV := hid hdv
      clear hb hdv
      go_wp2_with fail
      go_ret
      exact ⟨_, rfl, ⟨HDV.out.1, HDV.out.2.imp id fun ⟨k, cap, cur, h3, h4, h5⟩ => ⟨k, cap, cur, h3, by rw [HG.out]; omega, h5⟩⟩, by rw [HG.out]; exact HX.out.2.trans (HB.out.mono (Nat.le_succ g))⟩
end Go.Proofs.YtbcileppebpamaaGreatDoor
set_option linter.unusedSimpArgs false
set_option linter.unusedVariables false
namespace Go.Proofs.YtbcileppebpamaaGreatDoor
open Go Go.RowKit Go.Shelf
set_option maxRecDepth 100000
def sumL (b : Nat) : List RL → Nat → Nat
  | [], s => s
  | x :: ls, s => sumL b ls (if x.k = 2 then (s + x.v.toNat) % b else s)
theorem sumL_app (b : Nat) : ∀ (l m : List RL) (s : Nat), sumL b (l ++ m) s = sumL b m (sumL b l s)
  | [], _, _ => rfl
  | x :: l, m, s => by rw [List.cons_append, sumL, sumL, sumL_app b l m]
theorem sumL_lt (b : Nat) (hb : 0 < b) : ∀ (l : List RL) (s : Nat), s < b → sumL b l s < b
  | [], _, h => h
  | x :: l, s, h => by
    rw [sumL]
    refine sumL_lt b hb l _ ?_
    split
    · exact Nat.mod_lt _ hb
    · exact h
def valL (b n : Nat) (ls : List RL) : Nat × Int := if overL n ls = false then (0, 9) else if 0 < (devL ls n).length then (0, 110) else (sumL b ls 0, 0)
theorem exec_fldB1A {ev : Operand → Value} {o : Oper} {x : Operand} {b a : Nat} {W : World} (k : Nat) (ho : o.op = .fieldAddr 27 x k) (hx : ev x = .pointer (some ⟨b, a, none⟩)) (hk : k = 0 ∨ k = 1 ∨ k = 2) : (execOp ev o).run Tryz.prog W = .ok (.value (.pointer (some ⟨b, a + k, none⟩))) W := by
  rcases hk with rfl | rfl | rfl <;> simp [execOp, ho, hx] <;> go_simp
theorem exec_addW {ev : Operand → Value} {o : Oper} {x y : Operand} {a b c : Nat} {W : World} (ho : o.op = .binOp .add 3 x y 3) (hx : ev x = .int .i64 ((a : Nat) : Int)) (hy : ev y = .int .i64 ((b : Nat) : Int)) (hc : a + b = c) (hl : c ≤ 1000000000000) : (execOp ev o).run Tryz.prog W = .ok (.value (.int .i64 ((c : Nat) : Int))) W := by
  have hw : IntKind.i64.wrap (((a : Nat) : Int) + ((b : Nat) : Int)) = ((c : Nat) : Int) := (IntWalk.i64_in _ (by omega)).trans (by omega)
  simp [execOp, ho, hx, hy]
  go_simp
theorem exec_remN {ev : Operand → Value} {o : Oper} {x y : Operand} {a b z : Nat} {W : World} (ho : o.op = .binOp .rem 3 x y 3) (hx : ev x = .int .i64 ((a : Nat) : Int)) (hy : ev y = .int .i64 ((b : Nat) : Int)) (hb : 0 < b) (hz : a % b = z) (hl : b ≤ 1000000000) : (execOp ev o).run Tryz.prog W = .ok (.value (.int .i64 ((z : Nat) : Int))) W := by
  have h1 : z < b := hz ▸ Nat.mod_lt _ hb
  exact exec_rem ho hx hy (by omega) (by rw [tmod_nat, hz]) (IntWalk.i64_in _ (by omega))
set_option maxHeartbeats 8000000 in
theorem rvalue_c (b n : Nat) (hb1 : 0 < b) (hb2 : b ≤ 1000000000) (hn : n ≤ 1000) (v : Value) (ls : List RL) (W : World) (hr : ReadsL W v ls) (hl : ls.length ≤ 1000000) (hok : OkB ls) :
    Calls Tryz.prog 53 #[.agg #[.int .i64 ((b : Nat) : Int), .int .i64 ((n : Nat) : Int), v]] W fun e w' => e = .returned (.tuple #[.int .i64 (((valL b n ls).1 : Nat) : Int), .int .i64 (valL b n ls).2]) ∧ Below W.heap.size W w' := by
  obtain ⟨pv, cc, rfl⟩ := hr.form
  obtain ⟨m, hm⟩ : ∃ m, ls.length = m := ⟨_, rfl⟩
  rw [hm] at hr hl ⊢
  have hx := heap_alloc_new W (.cells #[.int .i64 ((b : Nat) : Int), .int .i64 ((n : Nat) : Int), .slice pv m cc] 49)
  have hal : Below W.heap.size W (W.alloc (.cells #[.int .i64 ((b : Nat) : Int), .int .i64 ((n : Nat) : Int), .slice pv m cc] 49)) := (Below.refl _ _).alloc (Nat.le_refl _) _
  have HX := hid (And.intro hx hal)
  have HOV := hid (fun V (hV : Below W.heap.size W V) => rover_c ((b : Nat) : Int) n (by omega) (.slice pv m cc) ls V (hr.below hV) (by omega))
  have HDE := hid (fun V (hV : Below W.heap.size W V) => rdevs_c ((b : Nat) : Int) n hn (.slice pv m cc) ls V (hr.below hV) (by omega) hok)
  obtain ⟨⟨r1, r2⟩, hrr⟩ : ∃ r, valL b n ls = r := ⟨_, rfl⟩
  rw [hrr]
  unfold valL at hrr
  have hdl := devL_len ls n
  obtain ⟨k, hk⟩ : ∃ k, (devL ls n).length = k := ⟨_, rfl⟩
  rw [hk] at hrr hdl
  have HK := hid hk
  have HR := hid hr
  have HM := hid hm
  have HOK := hid hok
  clear hr hal hx hk hm hok
  go_enter Tryz.func53, Tryz.ntmps53
  go_upto_region 1 with fail
  generalize W.alloc (.cells #[.int .i64 ((b : Nat) : Int), .int .i64 ((n : Nat) : Int), .slice pv m cc] 49) = W0 at HX ⊢
  obtain ⟨g, hg⟩ : ∃ g, W.heap.size = g := ⟨_, rfl⟩
  rw [hg] at HX ⊢
  have HG := hid hg
  have hgW0 : g + 1 ≤ W0.heap.size := heap_lt HX.out.1
  have k0 := cell_of_row _ _ 0 _ _ _ HX.out.1
  have k1 := cell_of_row _ _ 1 _ _ _ HX.out.1
  have k2 := cell_of_row _ _ 2 _ _ _ HX.out.1
  have HO := hid (HOV.out W0 (HG.out.symm ▸ HX.out.2))
  clear hg
  cases hov : overL n ls with
  | false =>
    rw [hov, if_pos rfl] at hrr
    rw [hov] at HO
    cases hrr
    go_wp2_with (go_at_call 58; refine HO.out.mono ?_; rintro e w1 ⟨rfl, hb1⟩)
    go_ret2
    exact ⟨rfl, HG.out ▸ HX.out.2.trans (hb1.mono (Nat.le_of_succ_le hgW0))⟩
  | true =>
    rw [hov, if_neg (by simp)] at hrr
    rw [hov] at HO
    go_upto_region 3 with (go_at_call 58; refine HO.out.mono ?_; rintro e w1 ⟨rfl, hb⟩; have HB1 := hid (show Below (g + 1) W0 w1 from hb.mono hgW0); clear hb)
    clear k0 k1 k2
    have hr1 := heap_below HB1.out HX.out.1 (Nat.lt_succ_self g)
    have k0 := cell_of_row _ _ 0 _ _ _ hr1
    have k1 := cell_of_row _ _ 1 _ _ _ hr1
    have k2 := cell_of_row _ _ 2 _ _ _ hr1
    have HD := hid (HDE.out w1 (HG.out.symm ▸ HX.out.2.trans (HB1.out.mono (Nat.le_succ g))))
    by_cases hk0 : 0 < k
    · have d1 : decide ((0 : Int) < ((k : Nat) : Int)) = true := decide_eq_true (by omega)
      have d2 : decide (0 < k) = true := decide_eq_true hk0
      rw [if_pos hk0] at hrr
      cases hrr
      go_wp2_with (go_at_call 55; refine HD.out.mono ?_; rintro e w2 ⟨u, rfl, hdv, hb⟩; obtain ⟨pu, cu, rfl⟩ := hdv.form; rw [HK.out]; have HB2 := hid (HB1.out.trans (hb.mono (Nat.le_trans hgW0 HB1.out.size))); clear hb hdv)
      go_ret2
      exact ⟨rfl, HG.out ▸ HX.out.2.trans (HB2.out.mono (Nat.le_succ g))⟩
    · have d1 : decide ((0 : Int) < ((k : Nat) : Int)) = false := decide_eq_false (by omega)
      have d2 : decide (0 < k) = false := decide_eq_false hk0
      rw [if_neg hk0] at hrr
      injection hrr with hr1e hr2e
      subst hr2e
      go_upto_region 5 with (go_at_call 55; refine HD.out.mono ?_; rintro e w2 ⟨u, rfl, hdv, hb⟩; obtain ⟨pu, cu, rfl⟩ := hdv.form; rw [HK.out]; have HB2 := hid (HB1.out.trans (hb.mono (Nat.le_trans hgW0 HB1.out.size))); clear hb hdv)
      clear k0 k1 k2 hr1
      have HRE := hid hr1e
      clear hr1e
      go_wp2_with fail
      go_loopw [4, 5] (fun cv ix wr => ∃ i : Nat, i ≤ m ∧ ix = .int .i64 ((i : Nat) : Int) ∧ cv = .int .i64 ((sumL b (ls.take i) 0 : Nat) : Int) ∧ Below (g + 1) W0 wr) (fun _ ix _ => m - (intOf ix).toNat)
      case atStart => exact ⟨0, by omega, rfl, rfl, HB2.out⟩
      case round =>
        obtain ⟨i, hi, rfl, rfl, hb⟩ := hrel
        have hgW : g + 1 ≤ wr.heap.size := Nat.le_trans hgW0 hb.size
        have hr0 := heap_below hb HX.out.1 (Nat.lt_succ_self g)
        have k0 := cell_of_row _ _ 0 _ _ _ hr0
        have k2 := cell_of_row _ _ 2 _ _ _ hr0
        have HB := hid hb
        clear hr0 hb
        rcases Nat.lt_or_ge i m with hlt | hge
        · have hin : decide (((i : Nat) : Int) < ((m : Nat) : Int)) = true := decide_eq_true (by omega)
          have hin' : ((i : Nat) : Int) < ((m : Nat) : Int) := by omega
          have hi0 : (0 : Int) ≤ ((i : Nat) : Int) := by omega
          obtain ⟨i1, hi1⟩ : ∃ i1, i + 1 = i1 := ⟨_, rfl⟩
          have hiw : IntKind.i64.wrap (((i : Nat) : Int) + 1) = ((i1 : Nat) : Int) := (IntWalk.i64_in _ (by omega)).trans (by omega)
          obtain ⟨x, hx⟩ : ∃ x, ls[i]? = some x := ⟨_, List.getElem?_eq_getElem (by rw [HM.out]; exact hlt)⟩
          have hst : sumL b (ls.take i1) 0 = (if x.k = 2 then (sumL b (ls.take i) 0 + x.v.toNat) % b else sumL b (ls.take i) 0) := by
            rw [← hi1, List.take_add_one, hx, sumL_app]
            rfl
          have hcb := sumL_lt b hb1 (ls.take i) 0 hb1
          obtain ⟨c, hc⟩ : ∃ c, sumL b (ls.take i) 0 = c := ⟨_, rfl⟩
          rw [hc] at hst hcb ⊢
          have hW0 : ∀ V, Below (g + 1) W0 V → Below W.heap.size W V := fun V hV => HG.out.symm ▸ HX.out.2.trans (hV.mono (Nat.le_succ g))
          obtain ⟨bk, oo, hpv, _, f0, _, _, f3, _⟩ := (HR.out.below (hW0 wr HB.out)).at' hx
          have hcell : ∀ V, Below (g + 1) W0 V → V.cell? ⟨bk, oo + i * 5 + 2 + 1, none⟩ = some (.int .i64 x.v) := fun V hV => by
            obtain ⟨bk', oo', e, _, _, _, _, q, _⟩ := (HR.out.below (hW0 V hV)).at' hx
            rw [hpv] at e
            cases e
            exact q
          subst hpv
          obtain ⟨xk, hxk⟩ : ∃ z, x.k = z := ⟨_, rfl⟩
          rw [hxk] at f0 hst
          have HI := hid hi1
          by_cases h2 : xk = 2
          · have e1 : (xk == 2) = true := by simp [h2]
            have e2 : decide (xk = 2) = true := decide_eq_true h2
            obtain ⟨_, q2, _⟩ := HOK.out x (List.mem_of_getElem? hx) (hxk.trans h2)
            obtain ⟨xv, hxv⟩ : ∃ z : Nat, x.v = z := ⟨x.v.toNat, by omega⟩
            rw [hxv] at hcell q2
            rw [if_pos h2, hxv, Int.toNat_natCast] at hst
            have HCE := hid hcell
            obtain ⟨d, hd⟩ : ∃ d, c + xv = d := ⟨_, rfl⟩
            rw [hd] at hst
            obtain ⟨q, hq⟩ : ∃ q, d % b = q := ⟨_, rfl⟩
            rw [hq] at hst
            have HST := hid hst
            clear hx hst hc hcell hxk hxv hi1 h2
            go_upto_region 10 with fail
            refine grow_regionG 12 [27, 28, 29, 30, 31, 32, 33, 34, 35, 36, 37, 38] (by kernel_rfl) (by kernel_rfl) (KV [(.int .i64 ((c : Nat) : Int)), (.pointer (some ⟨g, 2, none⟩)), (.slice (some ⟨bk, oo, none⟩) m cc), (.int .i64 ((i : Nat) : Int)), (.pointer (some ⟨bk, oo + i * 5, none⟩)), (.pointer (some ⟨bk, oo + i * 5 + 2, none⟩)), (.pointer (some ⟨bk, oo + i * 5 + 2 + 1, none⟩)), (.int .i64 ((xv : Nat) : Int)), (.int .i64 ((d : Nat) : Int)), (.pointer (some ⟨g, 0, none⟩)), (.int .i64 ((b : Nat) : Int)), (.int .i64 ((q : Nat) : Int))]) (fun _ _ _ => False) (fun _ _ _ _ _ h => h) (fun _ _ _ _ _ h => h.elim) ?_ ?_
            · intro jq oj hjq hoj a' w' hb' he hdep K hK
              have cb := HB.out.trans (hb'.mono hgW)
              have c0 := heap_below cb HX.out.1 (Nat.lt_succ_self g)
              have c1 := HCE.out w' cb
              rcases (show jq = 0 ∨ jq = 1 ∨ jq = 2 ∨ jq = 3 ∨ jq = 4 ∨ jq = 5 ∨ jq = 6 ∨ jq = 7 ∨ jq = 8 ∨ jq = 9 ∨ jq = 10 ∨ jq = 11 by omega) with rfl | rfl | rfl | rfl | rfl | rfl | rfl | rfl | rfl | rfl | rfl | rfl
              · obtain rfl := Option.some.inj hoj
                exact gG_none rfl (wpO_val _ (exec_mv rfl ((he 4 (by decide)).trans rfl : a'.eval (.tmp 4) = (.int .i64 ((c : Nat) : Int)))) (hK _ _ (Below.refl _ _) rfl (fun b h => h.elim)))
              · obtain rfl := Option.some.inj hoj
                exact gG_none rfl (wpO_val _ (exec_fldDr 2 rfl ((he 1 (by decide)).trans rfl : a'.eval (.tmp 1) = (.pointer (some ⟨g, 0, none⟩))) (by simp)) (hK _ _ (Below.refl _ _) rfl (fun b h => h.elim)))
              · obtain rfl := Option.some.inj hoj
                exact gG_none rfl (wpO_val _ (exec_ldLs rfl ((hdep ⟨1, .data⟩ (by simp) rfl : (KV [(.int .i64 ((c : Nat) : Int)), (.pointer (some ⟨g, 2, none⟩)), (.slice (some ⟨bk, oo, none⟩) m cc), (.int .i64 ((i : Nat) : Int)), (.pointer (some ⟨bk, oo + i * 5, none⟩)), (.pointer (some ⟨bk, oo + i * 5 + 2, none⟩)), (.pointer (some ⟨bk, oo + i * 5 + 2 + 1, none⟩)), (.int .i64 ((xv : Nat) : Int)), (.int .i64 ((d : Nat) : Int)), (.pointer (some ⟨g, 0, none⟩)), (.int .i64 ((b : Nat) : Int)), (.int .i64 ((q : Nat) : Int))]) 1 _ _) : a'.eval (.tmp 28) = (.pointer (some ⟨g, 2, none⟩))) (cell_of_row _ _ 2 _ _ _ c0)) (hK _ _ (Below.refl _ _) rfl (fun b h => h.elim)))
              · obtain rfl := Option.some.inj hoj
                exact gG_none rfl (wpO_val _ (exec_mv rfl ((he 5 (by decide)).trans rfl : a'.eval (.tmp 5) = (.int .i64 ((i : Nat) : Int)))) (hK _ _ (Below.refl _ _) rfl (fun b h => h.elim)))
              · obtain rfl := Option.some.inj hoj
                exact gG_none rfl (wpO_val _ (exec_ixL rfl ((hdep ⟨2, .data⟩ (by simp) rfl : (KV [(.int .i64 ((c : Nat) : Int)), (.pointer (some ⟨g, 2, none⟩)), (.slice (some ⟨bk, oo, none⟩) m cc), (.int .i64 ((i : Nat) : Int)), (.pointer (some ⟨bk, oo + i * 5, none⟩)), (.pointer (some ⟨bk, oo + i * 5 + 2, none⟩)), (.pointer (some ⟨bk, oo + i * 5 + 2 + 1, none⟩)), (.int .i64 ((xv : Nat) : Int)), (.int .i64 ((d : Nat) : Int)), (.pointer (some ⟨g, 0, none⟩)), (.int .i64 ((b : Nat) : Int)), (.int .i64 ((q : Nat) : Int))]) 2 _ _) : a'.eval (.tmp 29) = (.slice (some ⟨bk, oo, none⟩) m cc)) ((hdep ⟨3, .data⟩ (by simp) rfl : (KV [(.int .i64 ((c : Nat) : Int)), (.pointer (some ⟨g, 2, none⟩)), (.slice (some ⟨bk, oo, none⟩) m cc), (.int .i64 ((i : Nat) : Int)), (.pointer (some ⟨bk, oo + i * 5, none⟩)), (.pointer (some ⟨bk, oo + i * 5 + 2, none⟩)), (.pointer (some ⟨bk, oo + i * 5 + 2 + 1, none⟩)), (.int .i64 ((xv : Nat) : Int)), (.int .i64 ((d : Nat) : Int)), (.pointer (some ⟨g, 0, none⟩)), (.int .i64 ((b : Nat) : Int)), (.int .i64 ((q : Nat) : Int))]) 3 _ _) : a'.eval (.tmp 30) = (.int .i64 ((i : Nat) : Int))) hlt) (hK _ _ (Below.refl _ _) rfl (fun b h => h.elim)))
              · obtain rfl := Option.some.inj hoj
                exact gG_none rfl (wpO_val _ (exec_fldL 2 rfl ((hdep ⟨4, .data⟩ (by simp) rfl : (KV [(.int .i64 ((c : Nat) : Int)), (.pointer (some ⟨g, 2, none⟩)), (.slice (some ⟨bk, oo, none⟩) m cc), (.int .i64 ((i : Nat) : Int)), (.pointer (some ⟨bk, oo + i * 5, none⟩)), (.pointer (some ⟨bk, oo + i * 5 + 2, none⟩)), (.pointer (some ⟨bk, oo + i * 5 + 2 + 1, none⟩)), (.int .i64 ((xv : Nat) : Int)), (.int .i64 ((d : Nat) : Int)), (.pointer (some ⟨g, 0, none⟩)), (.int .i64 ((b : Nat) : Int)), (.int .i64 ((q : Nat) : Int))]) 4 _ _) : a'.eval (.tmp 31) = (.pointer (some ⟨bk, oo + i * 5, none⟩))) (by simp)) (hK _ _ (Below.refl _ _) rfl (fun b h => h.elim)))
              · obtain rfl := Option.some.inj hoj
                exact gG_none rfl (wpO_val _ (exec_fldB1A 1 rfl ((hdep ⟨5, .data⟩ (by simp) rfl : (KV [(.int .i64 ((c : Nat) : Int)), (.pointer (some ⟨g, 2, none⟩)), (.slice (some ⟨bk, oo, none⟩) m cc), (.int .i64 ((i : Nat) : Int)), (.pointer (some ⟨bk, oo + i * 5, none⟩)), (.pointer (some ⟨bk, oo + i * 5 + 2, none⟩)), (.pointer (some ⟨bk, oo + i * 5 + 2 + 1, none⟩)), (.int .i64 ((xv : Nat) : Int)), (.int .i64 ((d : Nat) : Int)), (.pointer (some ⟨g, 0, none⟩)), (.int .i64 ((b : Nat) : Int)), (.int .i64 ((q : Nat) : Int))]) 5 _ _) : a'.eval (.tmp 32) = (.pointer (some ⟨bk, oo + i * 5 + 2, none⟩))) (by simp)) (hK _ _ (Below.refl _ _) rfl (fun b h => h.elim)))
              · obtain rfl := Option.some.inj hoj
                exact gG_none rfl (wpO_val _ (exec_ldcellB rfl ((hdep ⟨6, .data⟩ (by simp) rfl : (KV [(.int .i64 ((c : Nat) : Int)), (.pointer (some ⟨g, 2, none⟩)), (.slice (some ⟨bk, oo, none⟩) m cc), (.int .i64 ((i : Nat) : Int)), (.pointer (some ⟨bk, oo + i * 5, none⟩)), (.pointer (some ⟨bk, oo + i * 5 + 2, none⟩)), (.pointer (some ⟨bk, oo + i * 5 + 2 + 1, none⟩)), (.int .i64 ((xv : Nat) : Int)), (.int .i64 ((d : Nat) : Int)), (.pointer (some ⟨g, 0, none⟩)), (.int .i64 ((b : Nat) : Int)), (.int .i64 ((q : Nat) : Int))]) 6 _ _) : a'.eval (.tmp 33) = (.pointer (some ⟨bk, oo + i * 5 + 2 + 1, none⟩))) c1) (hK _ _ (Below.refl _ _) rfl (fun b h => h.elim)))
              · obtain rfl := Option.some.inj hoj
                exact gG_none rfl (wpO_val _ (exec_addW rfl ((hdep ⟨0, .data⟩ (by simp) rfl : (KV [(.int .i64 ((c : Nat) : Int)), (.pointer (some ⟨g, 2, none⟩)), (.slice (some ⟨bk, oo, none⟩) m cc), (.int .i64 ((i : Nat) : Int)), (.pointer (some ⟨bk, oo + i * 5, none⟩)), (.pointer (some ⟨bk, oo + i * 5 + 2, none⟩)), (.pointer (some ⟨bk, oo + i * 5 + 2 + 1, none⟩)), (.int .i64 ((xv : Nat) : Int)), (.int .i64 ((d : Nat) : Int)), (.pointer (some ⟨g, 0, none⟩)), (.int .i64 ((b : Nat) : Int)), (.int .i64 ((q : Nat) : Int))]) 0 _ _) : a'.eval (.tmp 27) = (.int .i64 ((c : Nat) : Int))) ((hdep ⟨7, .data⟩ (by simp) rfl : (KV [(.int .i64 ((c : Nat) : Int)), (.pointer (some ⟨g, 2, none⟩)), (.slice (some ⟨bk, oo, none⟩) m cc), (.int .i64 ((i : Nat) : Int)), (.pointer (some ⟨bk, oo + i * 5, none⟩)), (.pointer (some ⟨bk, oo + i * 5 + 2, none⟩)), (.pointer (some ⟨bk, oo + i * 5 + 2 + 1, none⟩)), (.int .i64 ((xv : Nat) : Int)), (.int .i64 ((d : Nat) : Int)), (.pointer (some ⟨g, 0, none⟩)), (.int .i64 ((b : Nat) : Int)), (.int .i64 ((q : Nat) : Int))]) 7 _ _) : a'.eval (.tmp 34) = (.int .i64 ((xv : Nat) : Int))) hd (by omega)) (hK _ _ (Below.refl _ _) rfl (fun b h => h.elim)))
              · obtain rfl := Option.some.inj hoj
                exact gG_none rfl (wpO_val _ (exec_fldDr 0 rfl ((he 1 (by decide)).trans rfl : a'.eval (.tmp 1) = (.pointer (some ⟨g, 0, none⟩))) (by simp)) (hK _ _ (Below.refl _ _) rfl (fun b h => h.elim)))
              · obtain rfl := Option.some.inj hoj
                exact gG_none rfl (wpO_val _ (exec_ldcellB rfl ((hdep ⟨9, .data⟩ (by simp) rfl : (KV [(.int .i64 ((c : Nat) : Int)), (.pointer (some ⟨g, 2, none⟩)), (.slice (some ⟨bk, oo, none⟩) m cc), (.int .i64 ((i : Nat) : Int)), (.pointer (some ⟨bk, oo + i * 5, none⟩)), (.pointer (some ⟨bk, oo + i * 5 + 2, none⟩)), (.pointer (some ⟨bk, oo + i * 5 + 2 + 1, none⟩)), (.int .i64 ((xv : Nat) : Int)), (.int .i64 ((d : Nat) : Int)), (.pointer (some ⟨g, 0, none⟩)), (.int .i64 ((b : Nat) : Int)), (.int .i64 ((q : Nat) : Int))]) 9 _ _) : a'.eval (.tmp 36) = (.pointer (some ⟨g, 0, none⟩))) (cell_of_row _ _ 0 _ _ _ c0)) (hK _ _ (Below.refl _ _) rfl (fun b h => h.elim)))
              · obtain rfl := Option.some.inj hoj
                exact gG_none rfl (wpO_val _ (exec_remN rfl ((hdep ⟨8, .data⟩ (by simp) rfl : (KV [(.int .i64 ((c : Nat) : Int)), (.pointer (some ⟨g, 2, none⟩)), (.slice (some ⟨bk, oo, none⟩) m cc), (.int .i64 ((i : Nat) : Int)), (.pointer (some ⟨bk, oo + i * 5, none⟩)), (.pointer (some ⟨bk, oo + i * 5 + 2, none⟩)), (.pointer (some ⟨bk, oo + i * 5 + 2 + 1, none⟩)), (.int .i64 ((xv : Nat) : Int)), (.int .i64 ((d : Nat) : Int)), (.pointer (some ⟨g, 0, none⟩)), (.int .i64 ((b : Nat) : Int)), (.int .i64 ((q : Nat) : Int))]) 8 _ _) : a'.eval (.tmp 35) = (.int .i64 ((d : Nat) : Int))) ((hdep ⟨10, .data⟩ (by simp) rfl : (KV [(.int .i64 ((c : Nat) : Int)), (.pointer (some ⟨g, 2, none⟩)), (.slice (some ⟨bk, oo, none⟩) m cc), (.int .i64 ((i : Nat) : Int)), (.pointer (some ⟨bk, oo + i * 5, none⟩)), (.pointer (some ⟨bk, oo + i * 5 + 2, none⟩)), (.pointer (some ⟨bk, oo + i * 5 + 2 + 1, none⟩)), (.int .i64 ((xv : Nat) : Int)), (.int .i64 ((d : Nat) : Int)), (.pointer (some ⟨g, 0, none⟩)), (.int .i64 ((b : Nat) : Int)), (.int .i64 ((q : Nat) : Int))]) 10 _ _) : a'.eval (.tmp 37) = (.int .i64 ((b : Nat) : Int))) hb1 hq (by omega)) (hK _ _ (Below.refl _ _) rfl (fun b h => h.elim)))
            intro vq w6 hb6 hD _ _
            have hv0 : vq 0 = (.int .i64 ((c : Nat) : Int)) := hD 0 (by omega)
            have hv1 : vq 1 = (.pointer (some ⟨g, 2, none⟩)) := hD 1 (by omega)
            have hv2 : vq 2 = (.slice (some ⟨bk, oo, none⟩) m cc) := hD 2 (by omega)
            have hv3 : vq 3 = (.int .i64 ((i : Nat) : Int)) := hD 3 (by omega)
            have hv4 : vq 4 = (.pointer (some ⟨bk, oo + i * 5, none⟩)) := hD 4 (by omega)
            have hv5 : vq 5 = (.pointer (some ⟨bk, oo + i * 5 + 2, none⟩)) := hD 5 (by omega)
            have hv6 : vq 6 = (.pointer (some ⟨bk, oo + i * 5 + 2 + 1, none⟩)) := hD 6 (by omega)
            have hv7 : vq 7 = (.int .i64 ((xv : Nat) : Int)) := hD 7 (by omega)
            have hv8 : vq 8 = (.int .i64 ((d : Nat) : Int)) := hD 8 (by omega)
            have hv9 : vq 9 = (.pointer (some ⟨g, 0, none⟩)) := hD 9 (by omega)
            have hv10 : vq 10 = (.int .i64 ((b : Nat) : Int)) := hD 10 (by omega)
            have hv11 : vq 11 = (.int .i64 ((q : Nat) : Int)) := hD 11 (by omega)
            simp only [puts, Act.put, List.setIfInBounds_toArray, List.set_cons_zero, List.set_cons_succ, hv0, hv1, hv2, hv3, hv4, hv5, hv6, hv7, hv8, hv9, hv10, hv11, List.drop_succ_cons, List.drop_zero, Nat.zero_add, Nat.reduceAdd]
            have HB6 := hid (HB.out.trans (hb6.mono hgW))
            clear hD hb6 hv0 hv1 hv2 hv3 hv4 hv5 hv6 hv7 hv8 hv9 hv10 hv11
            go_wp2_with fail
            go_roundw
            case rel => exact ⟨i1, by have := HI.out; omega, rfl, by rw [HST.out], HB6.out⟩
            case measure => have := HI.out; simp only [intOf, Int.toNat_natCast]; omega
          · have e1 : (xk == 2) = false := by simp [h2]
            have e2 : decide (xk = 2) = false := decide_eq_false h2
            rw [if_neg h2] at hst
            have HST := hid hst
            clear hx hst hc hcell hxk hi1 h2
            go_wp2_with fail
            go_roundw
            case rel => exact ⟨i1, by have := HI.out; omega, rfl, by rw [HST.out], HB.out⟩
            case measure => have := HI.out; simp only [intOf, Int.toNat_natCast]; omega
        · obtain rfl : i = m := by omega
          have hin : ¬ ((i : Nat) : Int) < ((i : Nat) : Int) := by omega
          rw [List.take_of_length_le (by rw [HM.out]; exact Nat.le_refl _), HRE.out]
          go_wp2_with fail
          go_ret2
          exact ⟨rfl, HG.out ▸ HX.out.2.trans (HB.out.mono (Nat.le_succ g))⟩
end Go.Proofs.YtbcileppebpamaaGreatDoor
