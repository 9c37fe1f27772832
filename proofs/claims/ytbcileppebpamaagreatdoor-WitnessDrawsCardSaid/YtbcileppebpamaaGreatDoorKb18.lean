/- Lemmas for WitnessDraws: part 18. -/
import Derived.Test.YtbcileppebpamaaGreatDoorKb17
set_option linter.unusedSimpArgs false
set_option linter.unusedVariables false
namespace Go.Proofs.YtbcileppebpamaaGreatDoor
open Go Go.RowKit Go.Shelf
set_option maxRecDepth 100000
set_option maxHeartbeats 16000000 in
theorem radd3_c (b n : Nat) (hb2 : b ≤ 1000000000) (hn : n ≤ 1000) (v : Value) (ls : List RL) (xh : ByteArray) (xp xv : Int) (xs : ByteArray) (W : World) (hr : ReadsL W v ls) (hl : ls.length ≤ 100000) (hsz : xh.size ≤ 1000000) (hss : xs.size ≤ 1000000) :
    Calls Tryz.prog 19 #[.agg #[.int .i64 ((b : Nat) : Int), .int .i64 ((n : Nat) : Int), v], .agg #[.int .i64 3, .string xh, .int .i64 xp, .int .i64 xv, .string xs]] W fun e w' => ∃ v', e = .returned (.tuple #[.agg #[.int .i64 ((b : Nat) : Int), .int .i64 ((n : Nat) : Int), v'], .int .i64 (addE b n ls ⟨3, xh, xp, xv, xs⟩)]) ∧ ReadsL w' v' (addL b n ls ⟨3, xh, xp, xv, xs⟩) ∧ Below W.heap.size W w' := by
  obtain ⟨pv, cc, rfl⟩ := hr.form
  obtain ⟨m, hm⟩ : ∃ m, ls.length = m := ⟨_, rfl⟩
  rw [hm] at hr ⊢
  have HIN1 := hid (fun V => rin_c xp 1 ((n : Nat) : Int) V)
  have HIN2 := hid (fun V => rin_c xv 0 (((b : Nat) : Int) - 1) V)
  have HHX := hid (fun V => rhex_c xh hsz V)
  have HSA := hid (fun V => rsalt_c xs hss V)
  have HCT := hid (fun V (hV : Below W.heap.size W V) => rcount_c ((b : Nat) : Int) n (by omega) (.slice pv m cc) ls 1 V (hr.below hV) (by omega))
  have HOV := hid (fun V (hV : Below W.heap.size W V) => rover_c ((b : Nat) : Int) n (by omega) (.slice pv m cc) ls V (hr.below hV) (by omega))
  have HAT := hid (fun V (hV : Below W.heap.size W V) => rat_c ((b : Nat) : Int) ((n : Nat) : Int) (.slice pv m cc) ls 3 xp V (hr.below hV) (by omega))
  obtain ⟨EE, hEE⟩ : ∃ E, addE b n ls ⟨3, xh, xp, xv, xs⟩ = E := ⟨_, rfl⟩
  obtain ⟨LE, hLE⟩ : ∃ l, addL b n ls ⟨3, xh, xp, xv, xs⟩ = l := ⟨_, rfl⟩
  rw [hEE, hLE]
  have hx := heap_alloc_new W (.cells #[.int .i64 ((b : Nat) : Int), .int .i64 ((n : Nat) : Int), .slice pv m cc] 49)
  obtain ⟨U1, hU1⟩ : ∃ U, W.alloc (.cells #[.int .i64 ((b : Nat) : Int), .int .i64 ((n : Nat) : Int), .slice pv m cc] 49) = U := ⟨_, rfl⟩
  have hs1 : U1.heap.size = W.heap.size + 1 := by rw [← hU1]; simp
  have hb1 : Below W.heap.size W U1 := by rw [← hU1]; exact (Below.refl _ _).alloc (Nat.le_refl _) _
  rw [hU1] at hx
  have hy := heap_alloc_new U1 (.cells #[.int .i64 3, .string xh, .int .i64 xp, .int .i64 xv, .string xs] 56)
  obtain ⟨U2, hU2⟩ : ∃ U, U1.alloc (.cells #[.int .i64 3, .string xh, .int .i64 xp, .int .i64 xv, .string xs] 56) = U := ⟨_, rfl⟩
  have hs2 : U2.heap.size = W.heap.size + 2 := by rw [← hU2]; simp [hs1]
  have hb2' : Below U1.heap.size U1 U2 := by rw [← hU2]; exact (Below.refl _ _).alloc (Nat.le_refl _) _
  rw [hU2, hs1] at hy
  have hz := heap_alloc_new U2 (.cells #[.int .i64 0, .int .i64 0, .slice none 0 0] 49)
  have hb3 : Below U2.heap.size U2 (U2.alloc (.cells #[.int .i64 0, .int .i64 0, .slice none 0 0] 49)) := (Below.refl _ _).alloc (Nat.le_refl _) _
  rw [hs2] at hz
  have hab : AddB (U2.alloc (.cells #[.int .i64 0, .int .i64 0, .slice none 0 0] 49)) W.heap.size b n (.slice pv m cc) 3 xh xp xv xs :=
    ⟨heap_below hb3 (heap_below hb2' hx (heap_lt hx)) (by omega), heap_below hb3 hy (heap_lt hy), hz⟩
  have hbw : Below W.heap.size W (U2.alloc (.cells #[.int .i64 0, .int .i64 0, .slice none 0 0] 49)) := hb1.trans ((hb2'.trans (hb3.mono (by omega))).mono (by omega))
  have hgs : W.heap.size + 3 ≤ (U2.alloc (.cells #[.int .i64 0, .int .i64 0, .slice none 0 0] 49)).heap.size := by simp [hs2]
  rw [← hU2, ← hU1] at hab hbw hgs
  have HEE0 := hid hEE
  have HLE0 := hid hLE
  have HR := hid hr
  have HM := hid hm
  clear hr hm hEE hLE hx hy hz hb1 hb2' hb3 hs1 hs2 hU1 hU2
  go_enter Tryz.func19, Tryz.ntmps19
  go_upto_region 1 with fail
  generalize ((W.alloc (.cells #[.int .i64 ((b : Nat) : Int), .int .i64 ((n : Nat) : Int), .slice pv m cc] 49)).alloc (.cells #[.int .i64 3, .string xh, .int .i64 xp, .int .i64 xv, .string xs] 56)).alloc (.cells #[.int .i64 0, .int .i64 0, .slice none 0 0] 49) = W0 at hab hbw hgs ⊢
  obtain ⟨g, hg⟩ : ∃ g, W.heap.size = g := ⟨_, rfl⟩
  try simp only [World.size_alloc, Nat.add_assoc, Nat.reduceAdd]
  rw [hg] at hab hbw hgs ⊢
  have HG := hid hg
  have HAB := hid hab
  have HBW := hid hbw
  have HGS := hid hgs
  clear hg hab hbw hgs
  obtain ⟨d0, d1, d2, x0, x1, x2, x3, x4⟩ := HAB.out.cells
  obtain ⟨c, hc⟩ : ∃ c, cntL 1 ls n = c := ⟨_, rfl⟩
  rw [hc] at HCT
  obtain ⟨ob, hob⟩ : ∃ i, overL n ls = i := ⟨_, rfl⟩
  rw [hob] at HOV
  go_upto_region 10 with (first
    | fail)
  cases hcn : decide (c < n) with
  | true =>
    refine grow_regionG 13 [56, 57, 58, 59, 60, 61, 62, 63, 64, 65, 66, 67, 68] (by kernel_rfl) (by kernel_rfl) (KV [(.pointer (some ⟨g + 1, 0, none⟩)), (.int .i64 3), (.bool true), (.bool true), (.agg #[.int .i64 ((b : Nat) : Int), .int .i64 ((n : Nat) : Int), .slice pv m cc]), (.int .i64 ((c : Nat) : Int)), (.pointer (some ⟨g, 1, none⟩)), (.int .i64 ((n : Nat) : Int)), (.bool true), (.bool true), undef, undef, (.bool true)]) (fun _ _ _ => False) (fun _ _ _ _ _ h => h) (fun _ _ _ _ _ h => h.elim) ?_ ?_
    · intro jq oj hjq hoj a' w' hb' he hdep K hK
      have ca := HAB.out.below (hb'.mono HGS.out)
      have cb : Below W.heap.size W w' := HG.out.symm ▸ HBW.out.trans (hb'.mono (by have := HGS.out; omega))
      rcases (show jq = 0 ∨ jq = 1 ∨ jq = 2 ∨ jq = 3 ∨ jq = 4 ∨ jq = 5 ∨ jq = 6 ∨ jq = 7 ∨ jq = 8 ∨ jq = 9 ∨ jq = 10 ∨ jq = 11 ∨ jq = 12 by omega) with rfl | rfl | rfl | rfl | rfl | rfl | rfl | rfl | rfl | rfl | rfl | rfl | rfl
      · obtain rfl := Option.some.inj hoj
        exact gG_none rfl (wpO_val _ (exec_fldL 0 rfl ((he 3 (by decide)).trans rfl : a'.eval (.tmp 3) = (.pointer (some ⟨g + 1, 0, none⟩))) (by simp)) (hK _ _ (Below.refl _ _) rfl (fun b h => h.elim)))
      · obtain rfl := Option.some.inj hoj
        exact gG_none rfl (wpO_val _ (exec_ldcellB rfl ((hdep ⟨0, .data⟩ (by simp) rfl : (KV [(.pointer (some ⟨g + 1, 0, none⟩)), (.int .i64 3), (.bool true), (.bool true), (.agg #[.int .i64 ((b : Nat) : Int), .int .i64 ((n : Nat) : Int), .slice pv m cc]), (.int .i64 ((c : Nat) : Int)), (.pointer (some ⟨g, 1, none⟩)), (.int .i64 ((n : Nat) : Int)), (.bool true), (.bool true), undef, undef, (.bool true)]) 0 _ _) : a'.eval (.tmp 56) = (.pointer (some ⟨g + 1, 0, none⟩))) (cell_of_row _ _ 0 _ _ _ ca.x)) (hK _ _ (Below.refl _ _) rfl (fun b h => h.elim)))
      · obtain rfl := Option.some.inj hoj
        exact gG_none rfl (wpO_val _ (exec_neK rfl ((hdep ⟨1, .data⟩ (by simp) rfl : (KV [(.pointer (some ⟨g + 1, 0, none⟩)), (.int .i64 3), (.bool true), (.bool true), (.agg #[.int .i64 ((b : Nat) : Int), .int .i64 ((n : Nat) : Int), .slice pv m cc]), (.int .i64 ((c : Nat) : Int)), (.pointer (some ⟨g, 1, none⟩)), (.int .i64 ((n : Nat) : Int)), (.bool true), (.bool true), undef, undef, (.bool true)]) 1 _ _) : a'.eval (.tmp 57) = (.int .i64 3)) rfl (by decide)) (hK _ _ (Below.refl _ _) rfl (fun b h => h.elim)))
      · obtain rfl := Option.some.inj hoj
        exact gG_none rfl (wpO_val _ (exec_mv rfl ((hdep ⟨2, .data⟩ (by simp) rfl : (KV [(.pointer (some ⟨g + 1, 0, none⟩)), (.int .i64 3), (.bool true), (.bool true), (.agg #[.int .i64 ((b : Nat) : Int), .int .i64 ((n : Nat) : Int), .slice pv m cc]), (.int .i64 ((c : Nat) : Int)), (.pointer (some ⟨g, 1, none⟩)), (.int .i64 ((n : Nat) : Int)), (.bool true), (.bool true), undef, undef, (.bool true)]) 2 _ _) : a'.eval (.tmp 58) = (.bool true))) (hK _ _ (Below.refl _ _) rfl (fun b h => h.elim)))
      · obtain rfl := Option.some.inj hoj
        exact gG_on rfl ((hdep ⟨3, .guard⟩ (by simp) rfl : (KV [(.pointer (some ⟨g + 1, 0, none⟩)), (.int .i64 3), (.bool true), (.bool true), (.agg #[.int .i64 ((b : Nat) : Int), .int .i64 ((n : Nat) : Int), .slice pv m cc]), (.int .i64 ((c : Nat) : Int)), (.pointer (some ⟨g, 1, none⟩)), (.int .i64 ((n : Nat) : Int)), (.bool true), (.bool true), undef, undef, (.bool true)]) 3 _ _) : a'.eval (.tmp 59) = (.bool true)) (wpO_val _ (exec_ldDr rfl ((he 2 (by decide)).trans rfl : a'.eval (.tmp 2) = (.pointer (some ⟨g, 0, none⟩))) ca.d) (hK _ _ (Below.refl _ _) rfl (fun b h => h.elim)))
      · obtain rfl := Option.some.inj hoj
        exact gG_on rfl ((hdep ⟨3, .guard⟩ (by simp) rfl : (KV [(.pointer (some ⟨g + 1, 0, none⟩)), (.int .i64 3), (.bool true), (.bool true), (.agg #[.int .i64 ((b : Nat) : Int), .int .i64 ((n : Nat) : Int), .slice pv m cc]), (.int .i64 ((c : Nat) : Int)), (.pointer (some ⟨g, 1, none⟩)), (.int .i64 ((n : Nat) : Int)), (.bool true), (.bool true), undef, undef, (.bool true)]) 3 _ _) : a'.eval (.tmp 59) = (.bool true)) (wpO_call _ _ (exec_call2 rfl rfl ((hdep ⟨4, .data⟩ (by simp) rfl : (KV [(.pointer (some ⟨g + 1, 0, none⟩)), (.int .i64 3), (.bool true), (.bool true), (.agg #[.int .i64 ((b : Nat) : Int), .int .i64 ((n : Nat) : Int), .slice pv m cc]), (.int .i64 ((c : Nat) : Int)), (.pointer (some ⟨g, 1, none⟩)), (.int .i64 ((n : Nat) : Int)), (.bool true), (.bool true), undef, undef, (.bool true)]) 4 _ _) : a'.eval (.tmp 60) = (.agg #[.int .i64 ((b : Nat) : Int), .int .i64 ((n : Nat) : Int), .slice pv m cc])) rfl (by go_simp)) ((HCT.out w' cb).mono fun e w'' ⟨h1, h2⟩ => ⟨_, h1, hK _ w'' h2 rfl (fun b h => h.elim)⟩))
      · obtain rfl := Option.some.inj hoj
        exact gG_on rfl ((hdep ⟨3, .guard⟩ (by simp) rfl : (KV [(.pointer (some ⟨g + 1, 0, none⟩)), (.int .i64 3), (.bool true), (.bool true), (.agg #[.int .i64 ((b : Nat) : Int), .int .i64 ((n : Nat) : Int), .slice pv m cc]), (.int .i64 ((c : Nat) : Int)), (.pointer (some ⟨g, 1, none⟩)), (.int .i64 ((n : Nat) : Int)), (.bool true), (.bool true), undef, undef, (.bool true)]) 3 _ _) : a'.eval (.tmp 59) = (.bool true)) (wpO_val _ (exec_fldDr 1 rfl ((he 2 (by decide)).trans rfl : a'.eval (.tmp 2) = (.pointer (some ⟨g, 0, none⟩))) (by simp)) (hK _ _ (Below.refl _ _) rfl (fun b h => h.elim)))
      · obtain rfl := Option.some.inj hoj
        exact gG_on rfl ((hdep ⟨3, .guard⟩ (by simp) rfl : (KV [(.pointer (some ⟨g + 1, 0, none⟩)), (.int .i64 3), (.bool true), (.bool true), (.agg #[.int .i64 ((b : Nat) : Int), .int .i64 ((n : Nat) : Int), .slice pv m cc]), (.int .i64 ((c : Nat) : Int)), (.pointer (some ⟨g, 1, none⟩)), (.int .i64 ((n : Nat) : Int)), (.bool true), (.bool true), undef, undef, (.bool true)]) 3 _ _) : a'.eval (.tmp 59) = (.bool true)) (wpO_val _ (exec_ldcellB rfl ((hdep ⟨6, .data⟩ (by simp) rfl : (KV [(.pointer (some ⟨g + 1, 0, none⟩)), (.int .i64 3), (.bool true), (.bool true), (.agg #[.int .i64 ((b : Nat) : Int), .int .i64 ((n : Nat) : Int), .slice pv m cc]), (.int .i64 ((c : Nat) : Int)), (.pointer (some ⟨g, 1, none⟩)), (.int .i64 ((n : Nat) : Int)), (.bool true), (.bool true), undef, undef, (.bool true)]) 6 _ _) : a'.eval (.tmp 62) = (.pointer (some ⟨g, 1, none⟩))) (cell_of_row _ _ 1 _ _ _ ca.d)) (hK _ _ (Below.refl _ _) rfl (fun b h => h.elim)))
      · obtain rfl := Option.some.inj hoj
        exact gG_on rfl ((hdep ⟨3, .guard⟩ (by simp) rfl : (KV [(.pointer (some ⟨g + 1, 0, none⟩)), (.int .i64 3), (.bool true), (.bool true), (.agg #[.int .i64 ((b : Nat) : Int), .int .i64 ((n : Nat) : Int), .slice pv m cc]), (.int .i64 ((c : Nat) : Int)), (.pointer (some ⟨g, 1, none⟩)), (.int .i64 ((n : Nat) : Int)), (.bool true), (.bool true), undef, undef, (.bool true)]) 3 _ _) : a'.eval (.tmp 59) = (.bool true)) (wpO_val _ (exec_lsN rfl ((hdep ⟨5, .data⟩ (by simp) rfl : (KV [(.pointer (some ⟨g + 1, 0, none⟩)), (.int .i64 3), (.bool true), (.bool true), (.agg #[.int .i64 ((b : Nat) : Int), .int .i64 ((n : Nat) : Int), .slice pv m cc]), (.int .i64 ((c : Nat) : Int)), (.pointer (some ⟨g, 1, none⟩)), (.int .i64 ((n : Nat) : Int)), (.bool true), (.bool true), undef, undef, (.bool true)]) 5 _ _) : a'.eval (.tmp 61) = (.int .i64 ((c : Nat) : Int))) ((hdep ⟨7, .data⟩ (by simp) rfl : (KV [(.pointer (some ⟨g + 1, 0, none⟩)), (.int .i64 3), (.bool true), (.bool true), (.agg #[.int .i64 ((b : Nat) : Int), .int .i64 ((n : Nat) : Int), .slice pv m cc]), (.int .i64 ((c : Nat) : Int)), (.pointer (some ⟨g, 1, none⟩)), (.int .i64 ((n : Nat) : Int)), (.bool true), (.bool true), undef, undef, (.bool true)]) 7 _ _) : a'.eval (.tmp 63) = (.int .i64 ((n : Nat) : Int))) hcn) (hK _ _ (Below.refl _ _) rfl (fun b h => h.elim)))
      · obtain rfl := Option.some.inj hoj
        exact gG_on rfl ((hdep ⟨3, .guard⟩ (by simp) rfl : (KV [(.pointer (some ⟨g + 1, 0, none⟩)), (.int .i64 3), (.bool true), (.bool true), (.agg #[.int .i64 ((b : Nat) : Int), .int .i64 ((n : Nat) : Int), .slice pv m cc]), (.int .i64 ((c : Nat) : Int)), (.pointer (some ⟨g, 1, none⟩)), (.int .i64 ((n : Nat) : Int)), (.bool true), (.bool true), undef, undef, (.bool true)]) 3 _ _) : a'.eval (.tmp 59) = (.bool true)) (wpO_val _ (exec_mv rfl ((hdep ⟨8, .data⟩ (by simp) rfl : (KV [(.pointer (some ⟨g + 1, 0, none⟩)), (.int .i64 3), (.bool true), (.bool true), (.agg #[.int .i64 ((b : Nat) : Int), .int .i64 ((n : Nat) : Int), .slice pv m cc]), (.int .i64 ((c : Nat) : Int)), (.pointer (some ⟨g, 1, none⟩)), (.int .i64 ((n : Nat) : Int)), (.bool true), (.bool true), undef, undef, (.bool true)]) 8 _ _) : a'.eval (.tmp 64) = (.bool true))) (hK _ _ (Below.refl _ _) rfl (fun b h => h.elim)))
      · obtain rfl := Option.some.inj hoj
        exact gG_off rfl ((hdep ⟨9, .guard⟩ (by simp) rfl : (KV [(.pointer (some ⟨g + 1, 0, none⟩)), (.int .i64 3), (.bool true), (.bool true), (.agg #[.int .i64 ((b : Nat) : Int), .int .i64 ((n : Nat) : Int), .slice pv m cc]), (.int .i64 ((c : Nat) : Int)), (.pointer (some ⟨g, 1, none⟩)), (.int .i64 ((n : Nat) : Int)), (.bool true), (.bool true), undef, undef, (.bool true)]) 9 _ _) : a'.eval (.tmp 65) = (.bool true)) (by decide) (hK _ _ (Below.refl _ _) rfl (fun b h => h.elim))
      · obtain rfl := Option.some.inj hoj
        exact gG_off rfl ((hdep ⟨9, .guard⟩ (by simp) rfl : (KV [(.pointer (some ⟨g + 1, 0, none⟩)), (.int .i64 3), (.bool true), (.bool true), (.agg #[.int .i64 ((b : Nat) : Int), .int .i64 ((n : Nat) : Int), .slice pv m cc]), (.int .i64 ((c : Nat) : Int)), (.pointer (some ⟨g, 1, none⟩)), (.int .i64 ((n : Nat) : Int)), (.bool true), (.bool true), undef, undef, (.bool true)]) 9 _ _) : a'.eval (.tmp 65) = (.bool true)) (by decide) (hK _ _ (Below.refl _ _) rfl (fun b h => h.elim))
      · obtain rfl := Option.some.inj hoj
        exact gG_on rfl ((hdep ⟨3, .guard⟩ (by simp) rfl : (KV [(.pointer (some ⟨g + 1, 0, none⟩)), (.int .i64 3), (.bool true), (.bool true), (.agg #[.int .i64 ((b : Nat) : Int), .int .i64 ((n : Nat) : Int), .slice pv m cc]), (.int .i64 ((c : Nat) : Int)), (.pointer (some ⟨g, 1, none⟩)), (.int .i64 ((n : Nat) : Int)), (.bool true), (.bool true), undef, undef, (.bool true)]) 3 _ _) : a'.eval (.tmp 59) = (.bool true)) (wpO_val _ (exec_pick rfl ((hdep ⟨9, .data⟩ (by simp) rfl : (KV [(.pointer (some ⟨g + 1, 0, none⟩)), (.int .i64 3), (.bool true), (.bool true), (.agg #[.int .i64 ((b : Nat) : Int), .int .i64 ((n : Nat) : Int), .slice pv m cc]), (.int .i64 ((c : Nat) : Int)), (.pointer (some ⟨g, 1, none⟩)), (.int .i64 ((n : Nat) : Int)), (.bool true), (.bool true), undef, undef, (.bool true)]) 9 _ _) : a'.eval (.tmp 65) = (.bool true)) rfl) (hK _ _ (Below.refl _ _) rfl (fun b h => h.elim)))
    intro vq w6 hb6 hD _ _
    have hv0 : vq 0 = (.pointer (some ⟨g + 1, 0, none⟩)) := hD 0 (by omega)
    have hv1 : vq 1 = (.int .i64 3) := hD 1 (by omega)
    have hv2 : vq 2 = (.bool true) := hD 2 (by omega)
    have hv3 : vq 3 = (.bool true) := hD 3 (by omega)
    have hv4 : vq 4 = (.agg #[.int .i64 ((b : Nat) : Int), .int .i64 ((n : Nat) : Int), .slice pv m cc]) := hD 4 (by omega)
    have hv5 : vq 5 = (.int .i64 ((c : Nat) : Int)) := hD 5 (by omega)
    have hv6 : vq 6 = (.pointer (some ⟨g, 1, none⟩)) := hD 6 (by omega)
    have hv7 : vq 7 = (.int .i64 ((n : Nat) : Int)) := hD 7 (by omega)
    have hv8 : vq 8 = (.bool true) := hD 8 (by omega)
    have hv9 : vq 9 = (.bool true) := hD 9 (by omega)
    have hv10 : vq 10 = undef := hD 10 (by omega)
    have hv11 : vq 11 = undef := hD 11 (by omega)
    have hv12 : vq 12 = (.bool true) := hD 12 (by omega)
    simp only [puts, Act.put, List.setIfInBounds_toArray, List.set_cons_zero, List.set_cons_succ, hv0, hv1, hv2, hv3, hv4, hv5, hv6, hv7, hv8, hv9, hv10, hv11, hv12, List.drop_succ_cons, List.drop_zero, Nat.zero_add, Nat.reduceAdd]
    have hab := HAB.out.below (hb6.mono HGS.out)
    have hbw := HBW.out.trans (hb6.mono (by have := HGS.out; omega))
    have hgs := Nat.le_trans HGS.out hb6.size
    clear HAB HBW HGS d0 d1 d2 x0 x1 x2 x3 x4 hb6 hD hv0 hv1 hv2 hv3 hv4 hv5 hv6 hv7 hv8 hv9 hv10 hv11 hv12
    generalize w6 = wq at hab hbw hgs ⊢
    have HAB := hid hab
    have HBW := hid hbw
    have HGS := hid hgs
    clear hab hbw hgs
    obtain ⟨d0, d1, d2, x0, x1, x2, x3, x4⟩ := HAB.out.cells
    have hE : EE = 9 := by rw [← HEE0.out]; simp [addE, Nat.le_refl, hc, hcn]
    have HE := hid hE
    clear hE
    go_wp2_with (first
      | fail
      | (refine wpList_store_row rfl 49 (.tmp 4) (.tmp 70) rfl (g + 2) #[.int .i64 ((b : Nat) : Int), .int .i64 ((n : Nat) : Int), .slice pv m cc] rfl rfl 49 _ HAB.out.r (show (Tryz.prog.info? 49).map (·.size) = some 3 by kernel_rfl) rfl (drw_one _ _ _ _ _) ?_))
    refine bodyPost_ret (results_drw Tryz.results19 rfl rfl (setRow_at HAB.out.r)) rfl ⟨_, by rw [HE.out]; rfl, ?_⟩
    refine (fun (hB : Below W.heap.size W _) => ⟨by rw [← HLE0.out, addL, HEE0.out, HE.out, if_neg (by decide)]; exact HR.out.below hB, hB⟩) ?_
    rw [HG.out]
    exact HBW.out.trans (setRow_below (Nat.le_add_right g 2))
  | false =>
    cases ob with
    | true =>
      refine grow_regionG 13 [56, 57, 58, 59, 60, 61, 62, 63, 64, 65, 66, 67, 68] (by kernel_rfl) (by kernel_rfl) (KV [(.pointer (some ⟨g + 1, 0, none⟩)), (.int .i64 3), (.bool true), (.bool true), (.agg #[.int .i64 ((b : Nat) : Int), .int .i64 ((n : Nat) : Int), .slice pv m cc]), (.int .i64 ((c : Nat) : Int)), (.pointer (some ⟨g, 1, none⟩)), (.int .i64 ((n : Nat) : Int)), (.bool false), (.bool false), (.agg #[.int .i64 ((b : Nat) : Int), .int .i64 ((n : Nat) : Int), .slice pv m cc]), (.bool true), (.bool true)]) (fun _ _ _ => False) (fun _ _ _ _ _ h => h) (fun _ _ _ _ _ h => h.elim) ?_ ?_
      · intro jq oj hjq hoj a' w' hb' he hdep K hK
        have ca := HAB.out.below (hb'.mono HGS.out)
        have cb : Below W.heap.size W w' := HG.out.symm ▸ HBW.out.trans (hb'.mono (by have := HGS.out; omega))
        rcases (show jq = 0 ∨ jq = 1 ∨ jq = 2 ∨ jq = 3 ∨ jq = 4 ∨ jq = 5 ∨ jq = 6 ∨ jq = 7 ∨ jq = 8 ∨ jq = 9 ∨ jq = 10 ∨ jq = 11 ∨ jq = 12 by omega) with rfl | rfl | rfl | rfl | rfl | rfl | rfl | rfl | rfl | rfl | rfl | rfl | rfl
        · obtain rfl := Option.some.inj hoj
          exact gG_none rfl (wpO_val _ (exec_fldL 0 rfl ((he 3 (by decide)).trans rfl : a'.eval (.tmp 3) = (.pointer (some ⟨g + 1, 0, none⟩))) (by simp)) (hK _ _ (Below.refl _ _) rfl (fun b h => h.elim)))
        · obtain rfl := Option.some.inj hoj
          exact gG_none rfl (wpO_val _ (exec_ldcellB rfl ((hdep ⟨0, .data⟩ (by simp) rfl : (KV [(.pointer (some ⟨g + 1, 0, none⟩)), (.int .i64 3), (.bool true), (.bool true), (.agg #[.int .i64 ((b : Nat) : Int), .int .i64 ((n : Nat) : Int), .slice pv m cc]), (.int .i64 ((c : Nat) : Int)), (.pointer (some ⟨g, 1, none⟩)), (.int .i64 ((n : Nat) : Int)), (.bool false), (.bool false), (.agg #[.int .i64 ((b : Nat) : Int), .int .i64 ((n : Nat) : Int), .slice pv m cc]), (.bool true), (.bool true)]) 0 _ _) : a'.eval (.tmp 56) = (.pointer (some ⟨g + 1, 0, none⟩))) (cell_of_row _ _ 0 _ _ _ ca.x)) (hK _ _ (Below.refl _ _) rfl (fun b h => h.elim)))
        · obtain rfl := Option.some.inj hoj
          exact gG_none rfl (wpO_val _ (exec_neK rfl ((hdep ⟨1, .data⟩ (by simp) rfl : (KV [(.pointer (some ⟨g + 1, 0, none⟩)), (.int .i64 3), (.bool true), (.bool true), (.agg #[.int .i64 ((b : Nat) : Int), .int .i64 ((n : Nat) : Int), .slice pv m cc]), (.int .i64 ((c : Nat) : Int)), (.pointer (some ⟨g, 1, none⟩)), (.int .i64 ((n : Nat) : Int)), (.bool false), (.bool false), (.agg #[.int .i64 ((b : Nat) : Int), .int .i64 ((n : Nat) : Int), .slice pv m cc]), (.bool true), (.bool true)]) 1 _ _) : a'.eval (.tmp 57) = (.int .i64 3)) rfl (by decide)) (hK _ _ (Below.refl _ _) rfl (fun b h => h.elim)))
        · obtain rfl := Option.some.inj hoj
          exact gG_none rfl (wpO_val _ (exec_mv rfl ((hdep ⟨2, .data⟩ (by simp) rfl : (KV [(.pointer (some ⟨g + 1, 0, none⟩)), (.int .i64 3), (.bool true), (.bool true), (.agg #[.int .i64 ((b : Nat) : Int), .int .i64 ((n : Nat) : Int), .slice pv m cc]), (.int .i64 ((c : Nat) : Int)), (.pointer (some ⟨g, 1, none⟩)), (.int .i64 ((n : Nat) : Int)), (.bool false), (.bool false), (.agg #[.int .i64 ((b : Nat) : Int), .int .i64 ((n : Nat) : Int), .slice pv m cc]), (.bool true), (.bool true)]) 2 _ _) : a'.eval (.tmp 58) = (.bool true))) (hK _ _ (Below.refl _ _) rfl (fun b h => h.elim)))
        · obtain rfl := Option.some.inj hoj
          exact gG_on rfl ((hdep ⟨3, .guard⟩ (by simp) rfl : (KV [(.pointer (some ⟨g + 1, 0, none⟩)), (.int .i64 3), (.bool true), (.bool true), (.agg #[.int .i64 ((b : Nat) : Int), .int .i64 ((n : Nat) : Int), .slice pv m cc]), (.int .i64 ((c : Nat) : Int)), (.pointer (some ⟨g, 1, none⟩)), (.int .i64 ((n : Nat) : Int)), (.bool false), (.bool false), (.agg #[.int .i64 ((b : Nat) : Int), .int .i64 ((n : Nat) : Int), .slice pv m cc]), (.bool true), (.bool true)]) 3 _ _) : a'.eval (.tmp 59) = (.bool true)) (wpO_val _ (exec_ldDr rfl ((he 2 (by decide)).trans rfl : a'.eval (.tmp 2) = (.pointer (some ⟨g, 0, none⟩))) ca.d) (hK _ _ (Below.refl _ _) rfl (fun b h => h.elim)))
        · obtain rfl := Option.some.inj hoj
          exact gG_on rfl ((hdep ⟨3, .guard⟩ (by simp) rfl : (KV [(.pointer (some ⟨g + 1, 0, none⟩)), (.int .i64 3), (.bool true), (.bool true), (.agg #[.int .i64 ((b : Nat) : Int), .int .i64 ((n : Nat) : Int), .slice pv m cc]), (.int .i64 ((c : Nat) : Int)), (.pointer (some ⟨g, 1, none⟩)), (.int .i64 ((n : Nat) : Int)), (.bool false), (.bool false), (.agg #[.int .i64 ((b : Nat) : Int), .int .i64 ((n : Nat) : Int), .slice pv m cc]), (.bool true), (.bool true)]) 3 _ _) : a'.eval (.tmp 59) = (.bool true)) (wpO_call _ _ (exec_call2 rfl rfl ((hdep ⟨4, .data⟩ (by simp) rfl : (KV [(.pointer (some ⟨g + 1, 0, none⟩)), (.int .i64 3), (.bool true), (.bool true), (.agg #[.int .i64 ((b : Nat) : Int), .int .i64 ((n : Nat) : Int), .slice pv m cc]), (.int .i64 ((c : Nat) : Int)), (.pointer (some ⟨g, 1, none⟩)), (.int .i64 ((n : Nat) : Int)), (.bool false), (.bool false), (.agg #[.int .i64 ((b : Nat) : Int), .int .i64 ((n : Nat) : Int), .slice pv m cc]), (.bool true), (.bool true)]) 4 _ _) : a'.eval (.tmp 60) = (.agg #[.int .i64 ((b : Nat) : Int), .int .i64 ((n : Nat) : Int), .slice pv m cc])) rfl (by go_simp)) ((HCT.out w' cb).mono fun e w'' ⟨h1, h2⟩ => ⟨_, h1, hK _ w'' h2 rfl (fun b h => h.elim)⟩))
        · obtain rfl := Option.some.inj hoj
          exact gG_on rfl ((hdep ⟨3, .guard⟩ (by simp) rfl : (KV [(.pointer (some ⟨g + 1, 0, none⟩)), (.int .i64 3), (.bool true), (.bool true), (.agg #[.int .i64 ((b : Nat) : Int), .int .i64 ((n : Nat) : Int), .slice pv m cc]), (.int .i64 ((c : Nat) : Int)), (.pointer (some ⟨g, 1, none⟩)), (.int .i64 ((n : Nat) : Int)), (.bool false), (.bool false), (.agg #[.int .i64 ((b : Nat) : Int), .int .i64 ((n : Nat) : Int), .slice pv m cc]), (.bool true), (.bool true)]) 3 _ _) : a'.eval (.tmp 59) = (.bool true)) (wpO_val _ (exec_fldDr 1 rfl ((he 2 (by decide)).trans rfl : a'.eval (.tmp 2) = (.pointer (some ⟨g, 0, none⟩))) (by simp)) (hK _ _ (Below.refl _ _) rfl (fun b h => h.elim)))
        · obtain rfl := Option.some.inj hoj
          exact gG_on rfl ((hdep ⟨3, .guard⟩ (by simp) rfl : (KV [(.pointer (some ⟨g + 1, 0, none⟩)), (.int .i64 3), (.bool true), (.bool true), (.agg #[.int .i64 ((b : Nat) : Int), .int .i64 ((n : Nat) : Int), .slice pv m cc]), (.int .i64 ((c : Nat) : Int)), (.pointer (some ⟨g, 1, none⟩)), (.int .i64 ((n : Nat) : Int)), (.bool false), (.bool false), (.agg #[.int .i64 ((b : Nat) : Int), .int .i64 ((n : Nat) : Int), .slice pv m cc]), (.bool true), (.bool true)]) 3 _ _) : a'.eval (.tmp 59) = (.bool true)) (wpO_val _ (exec_ldcellB rfl ((hdep ⟨6, .data⟩ (by simp) rfl : (KV [(.pointer (some ⟨g + 1, 0, none⟩)), (.int .i64 3), (.bool true), (.bool true), (.agg #[.int .i64 ((b : Nat) : Int), .int .i64 ((n : Nat) : Int), .slice pv m cc]), (.int .i64 ((c : Nat) : Int)), (.pointer (some ⟨g, 1, none⟩)), (.int .i64 ((n : Nat) : Int)), (.bool false), (.bool false), (.agg #[.int .i64 ((b : Nat) : Int), .int .i64 ((n : Nat) : Int), .slice pv m cc]), (.bool true), (.bool true)]) 6 _ _) : a'.eval (.tmp 62) = (.pointer (some ⟨g, 1, none⟩))) (cell_of_row _ _ 1 _ _ _ ca.d)) (hK _ _ (Below.refl _ _) rfl (fun b h => h.elim)))
        · obtain rfl := Option.some.inj hoj
          exact gG_on rfl ((hdep ⟨3, .guard⟩ (by simp) rfl : (KV [(.pointer (some ⟨g + 1, 0, none⟩)), (.int .i64 3), (.bool true), (.bool true), (.agg #[.int .i64 ((b : Nat) : Int), .int .i64 ((n : Nat) : Int), .slice pv m cc]), (.int .i64 ((c : Nat) : Int)), (.pointer (some ⟨g, 1, none⟩)), (.int .i64 ((n : Nat) : Int)), (.bool false), (.bool false), (.agg #[.int .i64 ((b : Nat) : Int), .int .i64 ((n : Nat) : Int), .slice pv m cc]), (.bool true), (.bool true)]) 3 _ _) : a'.eval (.tmp 59) = (.bool true)) (wpO_val _ (exec_lsN rfl ((hdep ⟨5, .data⟩ (by simp) rfl : (KV [(.pointer (some ⟨g + 1, 0, none⟩)), (.int .i64 3), (.bool true), (.bool true), (.agg #[.int .i64 ((b : Nat) : Int), .int .i64 ((n : Nat) : Int), .slice pv m cc]), (.int .i64 ((c : Nat) : Int)), (.pointer (some ⟨g, 1, none⟩)), (.int .i64 ((n : Nat) : Int)), (.bool false), (.bool false), (.agg #[.int .i64 ((b : Nat) : Int), .int .i64 ((n : Nat) : Int), .slice pv m cc]), (.bool true), (.bool true)]) 5 _ _) : a'.eval (.tmp 61) = (.int .i64 ((c : Nat) : Int))) ((hdep ⟨7, .data⟩ (by simp) rfl : (KV [(.pointer (some ⟨g + 1, 0, none⟩)), (.int .i64 3), (.bool true), (.bool true), (.agg #[.int .i64 ((b : Nat) : Int), .int .i64 ((n : Nat) : Int), .slice pv m cc]), (.int .i64 ((c : Nat) : Int)), (.pointer (some ⟨g, 1, none⟩)), (.int .i64 ((n : Nat) : Int)), (.bool false), (.bool false), (.agg #[.int .i64 ((b : Nat) : Int), .int .i64 ((n : Nat) : Int), .slice pv m cc]), (.bool true), (.bool true)]) 7 _ _) : a'.eval (.tmp 63) = (.int .i64 ((n : Nat) : Int))) hcn) (hK _ _ (Below.refl _ _) rfl (fun b h => h.elim)))
        · obtain rfl := Option.some.inj hoj
          exact gG_on rfl ((hdep ⟨3, .guard⟩ (by simp) rfl : (KV [(.pointer (some ⟨g + 1, 0, none⟩)), (.int .i64 3), (.bool true), (.bool true), (.agg #[.int .i64 ((b : Nat) : Int), .int .i64 ((n : Nat) : Int), .slice pv m cc]), (.int .i64 ((c : Nat) : Int)), (.pointer (some ⟨g, 1, none⟩)), (.int .i64 ((n : Nat) : Int)), (.bool false), (.bool false), (.agg #[.int .i64 ((b : Nat) : Int), .int .i64 ((n : Nat) : Int), .slice pv m cc]), (.bool true), (.bool true)]) 3 _ _) : a'.eval (.tmp 59) = (.bool true)) (wpO_val _ (exec_mv rfl ((hdep ⟨8, .data⟩ (by simp) rfl : (KV [(.pointer (some ⟨g + 1, 0, none⟩)), (.int .i64 3), (.bool true), (.bool true), (.agg #[.int .i64 ((b : Nat) : Int), .int .i64 ((n : Nat) : Int), .slice pv m cc]), (.int .i64 ((c : Nat) : Int)), (.pointer (some ⟨g, 1, none⟩)), (.int .i64 ((n : Nat) : Int)), (.bool false), (.bool false), (.agg #[.int .i64 ((b : Nat) : Int), .int .i64 ((n : Nat) : Int), .slice pv m cc]), (.bool true), (.bool true)]) 8 _ _) : a'.eval (.tmp 64) = (.bool false))) (hK _ _ (Below.refl _ _) rfl (fun b h => h.elim)))
        · obtain rfl := Option.some.inj hoj
          exact gG_on rfl ((hdep ⟨9, .guard⟩ (by simp) rfl : (KV [(.pointer (some ⟨g + 1, 0, none⟩)), (.int .i64 3), (.bool true), (.bool true), (.agg #[.int .i64 ((b : Nat) : Int), .int .i64 ((n : Nat) : Int), .slice pv m cc]), (.int .i64 ((c : Nat) : Int)), (.pointer (some ⟨g, 1, none⟩)), (.int .i64 ((n : Nat) : Int)), (.bool false), (.bool false), (.agg #[.int .i64 ((b : Nat) : Int), .int .i64 ((n : Nat) : Int), .slice pv m cc]), (.bool true), (.bool true)]) 9 _ _) : a'.eval (.tmp 65) = (.bool false)) (wpO_val _ (exec_ldDr rfl ((he 2 (by decide)).trans rfl : a'.eval (.tmp 2) = (.pointer (some ⟨g, 0, none⟩))) ca.d) (hK _ _ (Below.refl _ _) rfl (fun b h => h.elim)))
        · obtain rfl := Option.some.inj hoj
          exact gG_on rfl ((hdep ⟨9, .guard⟩ (by simp) rfl : (KV [(.pointer (some ⟨g + 1, 0, none⟩)), (.int .i64 3), (.bool true), (.bool true), (.agg #[.int .i64 ((b : Nat) : Int), .int .i64 ((n : Nat) : Int), .slice pv m cc]), (.int .i64 ((c : Nat) : Int)), (.pointer (some ⟨g, 1, none⟩)), (.int .i64 ((n : Nat) : Int)), (.bool false), (.bool false), (.agg #[.int .i64 ((b : Nat) : Int), .int .i64 ((n : Nat) : Int), .slice pv m cc]), (.bool true), (.bool true)]) 9 _ _) : a'.eval (.tmp 65) = (.bool false)) (wpO_call _ _ (exec_call1 rfl rfl ((hdep ⟨10, .data⟩ (by simp) rfl : (KV [(.pointer (some ⟨g + 1, 0, none⟩)), (.int .i64 3), (.bool true), (.bool true), (.agg #[.int .i64 ((b : Nat) : Int), .int .i64 ((n : Nat) : Int), .slice pv m cc]), (.int .i64 ((c : Nat) : Int)), (.pointer (some ⟨g, 1, none⟩)), (.int .i64 ((n : Nat) : Int)), (.bool false), (.bool false), (.agg #[.int .i64 ((b : Nat) : Int), .int .i64 ((n : Nat) : Int), .slice pv m cc]), (.bool true), (.bool true)]) 10 _ _) : a'.eval (.tmp 66) = (.agg #[.int .i64 ((b : Nat) : Int), .int .i64 ((n : Nat) : Int), .slice pv m cc])) (by go_simp)) ((HOV.out w' cb).mono fun e w'' ⟨h1, h2⟩ => ⟨_, h1, hK _ w'' h2 rfl (fun b h => h.elim)⟩))
        · obtain rfl := Option.some.inj hoj
          exact gG_on rfl ((hdep ⟨3, .guard⟩ (by simp) rfl : (KV [(.pointer (some ⟨g + 1, 0, none⟩)), (.int .i64 3), (.bool true), (.bool true), (.agg #[.int .i64 ((b : Nat) : Int), .int .i64 ((n : Nat) : Int), .slice pv m cc]), (.int .i64 ((c : Nat) : Int)), (.pointer (some ⟨g, 1, none⟩)), (.int .i64 ((n : Nat) : Int)), (.bool false), (.bool false), (.agg #[.int .i64 ((b : Nat) : Int), .int .i64 ((n : Nat) : Int), .slice pv m cc]), (.bool true), (.bool true)]) 3 _ _) : a'.eval (.tmp 59) = (.bool true)) (wpO_val _ (exec_pick rfl ((hdep ⟨9, .data⟩ (by simp) rfl : (KV [(.pointer (some ⟨g + 1, 0, none⟩)), (.int .i64 3), (.bool true), (.bool true), (.agg #[.int .i64 ((b : Nat) : Int), .int .i64 ((n : Nat) : Int), .slice pv m cc]), (.int .i64 ((c : Nat) : Int)), (.pointer (some ⟨g, 1, none⟩)), (.int .i64 ((n : Nat) : Int)), (.bool false), (.bool false), (.agg #[.int .i64 ((b : Nat) : Int), .int .i64 ((n : Nat) : Int), .slice pv m cc]), (.bool true), (.bool true)]) 9 _ _) : a'.eval (.tmp 65) = (.bool false)) (((hdep ⟨11, .data⟩ (by simp) rfl : (KV [(.pointer (some ⟨g + 1, 0, none⟩)), (.int .i64 3), (.bool true), (.bool true), (.agg #[.int .i64 ((b : Nat) : Int), .int .i64 ((n : Nat) : Int), .slice pv m cc]), (.int .i64 ((c : Nat) : Int)), (.pointer (some ⟨g, 1, none⟩)), (.int .i64 ((n : Nat) : Int)), (.bool false), (.bool false), (.agg #[.int .i64 ((b : Nat) : Int), .int .i64 ((n : Nat) : Int), .slice pv m cc]), (.bool true), (.bool true)]) 11 _ _) : a'.eval (.tmp 67) = (.bool true)))) (hK _ _ (Below.refl _ _) rfl (fun b h => h.elim)))
      intro vq w6 hb6 hD _ _
      have hv0 : vq 0 = (.pointer (some ⟨g + 1, 0, none⟩)) := hD 0 (by omega)
      have hv1 : vq 1 = (.int .i64 3) := hD 1 (by omega)
      have hv2 : vq 2 = (.bool true) := hD 2 (by omega)
      have hv3 : vq 3 = (.bool true) := hD 3 (by omega)
      have hv4 : vq 4 = (.agg #[.int .i64 ((b : Nat) : Int), .int .i64 ((n : Nat) : Int), .slice pv m cc]) := hD 4 (by omega)
      have hv5 : vq 5 = (.int .i64 ((c : Nat) : Int)) := hD 5 (by omega)
      have hv6 : vq 6 = (.pointer (some ⟨g, 1, none⟩)) := hD 6 (by omega)
      have hv7 : vq 7 = (.int .i64 ((n : Nat) : Int)) := hD 7 (by omega)
      have hv8 : vq 8 = (.bool false) := hD 8 (by omega)
      have hv9 : vq 9 = (.bool false) := hD 9 (by omega)
      have hv10 : vq 10 = (.agg #[.int .i64 ((b : Nat) : Int), .int .i64 ((n : Nat) : Int), .slice pv m cc]) := hD 10 (by omega)
      have hv11 : vq 11 = (.bool true) := hD 11 (by omega)
      have hv12 : vq 12 = (.bool true) := hD 12 (by omega)
      simp only [puts, Act.put, List.setIfInBounds_toArray, List.set_cons_zero, List.set_cons_succ, hv0, hv1, hv2, hv3, hv4, hv5, hv6, hv7, hv8, hv9, hv10, hv11, hv12, List.drop_succ_cons, List.drop_zero, Nat.zero_add, Nat.reduceAdd]
      have hab := HAB.out.below (hb6.mono HGS.out)
      have hbw := HBW.out.trans (hb6.mono (by have := HGS.out; omega))
      have hgs := Nat.le_trans HGS.out hb6.size
      clear HAB HBW HGS d0 d1 d2 x0 x1 x2 x3 x4 hb6 hD hv0 hv1 hv2 hv3 hv4 hv5 hv6 hv7 hv8 hv9 hv10 hv11 hv12
      generalize w6 = wq at hab hbw hgs ⊢
      have HAB := hid hab
      have HBW := hid hbw
      have HGS := hid hgs
      clear hab hbw hgs
      obtain ⟨d0, d1, d2, x0, x1, x2, x3, x4⟩ := HAB.out.cells
      have hE : EE = 9 := by rw [← HEE0.out]; simp [addE, Nat.le_refl, hc, hcn, hob]
      have HE := hid hE
      clear hE
      go_wp2_with (first
        | fail
        | (refine wpList_store_row rfl 49 (.tmp 4) (.tmp 70) rfl (g + 2) #[.int .i64 ((b : Nat) : Int), .int .i64 ((n : Nat) : Int), .slice pv m cc] rfl rfl 49 _ HAB.out.r (show (Tryz.prog.info? 49).map (·.size) = some 3 by kernel_rfl) rfl (drw_one _ _ _ _ _) ?_))
      refine bodyPost_ret (results_drw Tryz.results19 rfl rfl (setRow_at HAB.out.r)) rfl ⟨_, by rw [HE.out]; rfl, ?_⟩
      refine (fun (hB : Below W.heap.size W _) => ⟨by rw [← HLE0.out, addL, HEE0.out, HE.out, if_neg (by decide)]; exact HR.out.below hB, hB⟩) ?_
      rw [HG.out]
      exact HBW.out.trans (setRow_below (Nat.le_add_right g 2))
    | false =>
      refine grow_regionG 13 [56, 57, 58, 59, 60, 61, 62, 63, 64, 65, 66, 67, 68] (by kernel_rfl) (by kernel_rfl) (KV [(.pointer (some ⟨g + 1, 0, none⟩)), (.int .i64 3), (.bool true), (.bool true), (.agg #[.int .i64 ((b : Nat) : Int), .int .i64 ((n : Nat) : Int), .slice pv m cc]), (.int .i64 ((c : Nat) : Int)), (.pointer (some ⟨g, 1, none⟩)), (.int .i64 ((n : Nat) : Int)), (.bool false), (.bool false), (.agg #[.int .i64 ((b : Nat) : Int), .int .i64 ((n : Nat) : Int), .slice pv m cc]), (.bool false), (.bool false)]) (fun _ _ _ => False) (fun _ _ _ _ _ h => h) (fun _ _ _ _ _ h => h.elim) ?_ ?_
      · intro jq oj hjq hoj a' w' hb' he hdep K hK
        have ca := HAB.out.below (hb'.mono HGS.out)
        have cb : Below W.heap.size W w' := HG.out.symm ▸ HBW.out.trans (hb'.mono (by have := HGS.out; omega))
        rcases (show jq = 0 ∨ jq = 1 ∨ jq = 2 ∨ jq = 3 ∨ jq = 4 ∨ jq = 5 ∨ jq = 6 ∨ jq = 7 ∨ jq = 8 ∨ jq = 9 ∨ jq = 10 ∨ jq = 11 ∨ jq = 12 by omega) with rfl | rfl | rfl | rfl | rfl | rfl | rfl | rfl | rfl | rfl | rfl | rfl | rfl
        · obtain rfl := Option.some.inj hoj
          exact gG_none rfl (wpO_val _ (exec_fldL 0 rfl ((he 3 (by decide)).trans rfl : a'.eval (.tmp 3) = (.pointer (some ⟨g + 1, 0, none⟩))) (by simp)) (hK _ _ (Below.refl _ _) rfl (fun b h => h.elim)))
        · obtain rfl := Option.some.inj hoj
          exact gG_none rfl (wpO_val _ (exec_ldcellB rfl ((hdep ⟨0, .data⟩ (by simp) rfl : (KV [(.pointer (some ⟨g + 1, 0, none⟩)), (.int .i64 3), (.bool true), (.bool true), (.agg #[.int .i64 ((b : Nat) : Int), .int .i64 ((n : Nat) : Int), .slice pv m cc]), (.int .i64 ((c : Nat) : Int)), (.pointer (some ⟨g, 1, none⟩)), (.int .i64 ((n : Nat) : Int)), (.bool false), (.bool false), (.agg #[.int .i64 ((b : Nat) : Int), .int .i64 ((n : Nat) : Int), .slice pv m cc]), (.bool false), (.bool false)]) 0 _ _) : a'.eval (.tmp 56) = (.pointer (some ⟨g + 1, 0, none⟩))) (cell_of_row _ _ 0 _ _ _ ca.x)) (hK _ _ (Below.refl _ _) rfl (fun b h => h.elim)))
        · obtain rfl := Option.some.inj hoj
          exact gG_none rfl (wpO_val _ (exec_neK rfl ((hdep ⟨1, .data⟩ (by simp) rfl : (KV [(.pointer (some ⟨g + 1, 0, none⟩)), (.int .i64 3), (.bool true), (.bool true), (.agg #[.int .i64 ((b : Nat) : Int), .int .i64 ((n : Nat) : Int), .slice pv m cc]), (.int .i64 ((c : Nat) : Int)), (.pointer (some ⟨g, 1, none⟩)), (.int .i64 ((n : Nat) : Int)), (.bool false), (.bool false), (.agg #[.int .i64 ((b : Nat) : Int), .int .i64 ((n : Nat) : Int), .slice pv m cc]), (.bool false), (.bool false)]) 1 _ _) : a'.eval (.tmp 57) = (.int .i64 3)) rfl (by decide)) (hK _ _ (Below.refl _ _) rfl (fun b h => h.elim)))
        · obtain rfl := Option.some.inj hoj
          exact gG_none rfl (wpO_val _ (exec_mv rfl ((hdep ⟨2, .data⟩ (by simp) rfl : (KV [(.pointer (some ⟨g + 1, 0, none⟩)), (.int .i64 3), (.bool true), (.bool true), (.agg #[.int .i64 ((b : Nat) : Int), .int .i64 ((n : Nat) : Int), .slice pv m cc]), (.int .i64 ((c : Nat) : Int)), (.pointer (some ⟨g, 1, none⟩)), (.int .i64 ((n : Nat) : Int)), (.bool false), (.bool false), (.agg #[.int .i64 ((b : Nat) : Int), .int .i64 ((n : Nat) : Int), .slice pv m cc]), (.bool false), (.bool false)]) 2 _ _) : a'.eval (.tmp 58) = (.bool true))) (hK _ _ (Below.refl _ _) rfl (fun b h => h.elim)))
        · obtain rfl := Option.some.inj hoj
          exact gG_on rfl ((hdep ⟨3, .guard⟩ (by simp) rfl : (KV [(.pointer (some ⟨g + 1, 0, none⟩)), (.int .i64 3), (.bool true), (.bool true), (.agg #[.int .i64 ((b : Nat) : Int), .int .i64 ((n : Nat) : Int), .slice pv m cc]), (.int .i64 ((c : Nat) : Int)), (.pointer (some ⟨g, 1, none⟩)), (.int .i64 ((n : Nat) : Int)), (.bool false), (.bool false), (.agg #[.int .i64 ((b : Nat) : Int), .int .i64 ((n : Nat) : Int), .slice pv m cc]), (.bool false), (.bool false)]) 3 _ _) : a'.eval (.tmp 59) = (.bool true)) (wpO_val _ (exec_ldDr rfl ((he 2 (by decide)).trans rfl : a'.eval (.tmp 2) = (.pointer (some ⟨g, 0, none⟩))) ca.d) (hK _ _ (Below.refl _ _) rfl (fun b h => h.elim)))
        · obtain rfl := Option.some.inj hoj
          exact gG_on rfl ((hdep ⟨3, .guard⟩ (by simp) rfl : (KV [(.pointer (some ⟨g + 1, 0, none⟩)), (.int .i64 3), (.bool true), (.bool true), (.agg #[.int .i64 ((b : Nat) : Int), .int .i64 ((n : Nat) : Int), .slice pv m cc]), (.int .i64 ((c : Nat) : Int)), (.pointer (some ⟨g, 1, none⟩)), (.int .i64 ((n : Nat) : Int)), (.bool false), (.bool false), (.agg #[.int .i64 ((b : Nat) : Int), .int .i64 ((n : Nat) : Int), .slice pv m cc]), (.bool false), (.bool false)]) 3 _ _) : a'.eval (.tmp 59) = (.bool true)) (wpO_call _ _ (exec_call2 rfl rfl ((hdep ⟨4, .data⟩ (by simp) rfl : (KV [(.pointer (some ⟨g + 1, 0, none⟩)), (.int .i64 3), (.bool true), (.bool true), (.agg #[.int .i64 ((b : Nat) : Int), .int .i64 ((n : Nat) : Int), .slice pv m cc]), (.int .i64 ((c : Nat) : Int)), (.pointer (some ⟨g, 1, none⟩)), (.int .i64 ((n : Nat) : Int)), (.bool false), (.bool false), (.agg #[.int .i64 ((b : Nat) : Int), .int .i64 ((n : Nat) : Int), .slice pv m cc]), (.bool false), (.bool false)]) 4 _ _) : a'.eval (.tmp 60) = (.agg #[.int .i64 ((b : Nat) : Int), .int .i64 ((n : Nat) : Int), .slice pv m cc])) rfl (by go_simp)) ((HCT.out w' cb).mono fun e w'' ⟨h1, h2⟩ => ⟨_, h1, hK _ w'' h2 rfl (fun b h => h.elim)⟩))
        · obtain rfl := Option.some.inj hoj
          exact gG_on rfl ((hdep ⟨3, .guard⟩ (by simp) rfl : (KV [(.pointer (some ⟨g + 1, 0, none⟩)), (.int .i64 3), (.bool true), (.bool true), (.agg #[.int .i64 ((b : Nat) : Int), .int .i64 ((n : Nat) : Int), .slice pv m cc]), (.int .i64 ((c : Nat) : Int)), (.pointer (some ⟨g, 1, none⟩)), (.int .i64 ((n : Nat) : Int)), (.bool false), (.bool false), (.agg #[.int .i64 ((b : Nat) : Int), .int .i64 ((n : Nat) : Int), .slice pv m cc]), (.bool false), (.bool false)]) 3 _ _) : a'.eval (.tmp 59) = (.bool true)) (wpO_val _ (exec_fldDr 1 rfl ((he 2 (by decide)).trans rfl : a'.eval (.tmp 2) = (.pointer (some ⟨g, 0, none⟩))) (by simp)) (hK _ _ (Below.refl _ _) rfl (fun b h => h.elim)))
        · obtain rfl := Option.some.inj hoj
          exact gG_on rfl ((hdep ⟨3, .guard⟩ (by simp) rfl : (KV [(.pointer (some ⟨g + 1, 0, none⟩)), (.int .i64 3), (.bool true), (.bool true), (.agg #[.int .i64 ((b : Nat) : Int), .int .i64 ((n : Nat) : Int), .slice pv m cc]), (.int .i64 ((c : Nat) : Int)), (.pointer (some ⟨g, 1, none⟩)), (.int .i64 ((n : Nat) : Int)), (.bool false), (.bool false), (.agg #[.int .i64 ((b : Nat) : Int), .int .i64 ((n : Nat) : Int), .slice pv m cc]), (.bool false), (.bool false)]) 3 _ _) : a'.eval (.tmp 59) = (.bool true)) (wpO_val _ (exec_ldcellB rfl ((hdep ⟨6, .data⟩ (by simp) rfl : (KV [(.pointer (some ⟨g + 1, 0, none⟩)), (.int .i64 3), (.bool true), (.bool true), (.agg #[.int .i64 ((b : Nat) : Int), .int .i64 ((n : Nat) : Int), .slice pv m cc]), (.int .i64 ((c : Nat) : Int)), (.pointer (some ⟨g, 1, none⟩)), (.int .i64 ((n : Nat) : Int)), (.bool false), (.bool false), (.agg #[.int .i64 ((b : Nat) : Int), .int .i64 ((n : Nat) : Int), .slice pv m cc]), (.bool false), (.bool false)]) 6 _ _) : a'.eval (.tmp 62) = (.pointer (some ⟨g, 1, none⟩))) (cell_of_row _ _ 1 _ _ _ ca.d)) (hK _ _ (Below.refl _ _) rfl (fun b h => h.elim)))
        · obtain rfl := Option.some.inj hoj
          exact gG_on rfl ((hdep ⟨3, .guard⟩ (by simp) rfl : (KV [(.pointer (some ⟨g + 1, 0, none⟩)), (.int .i64 3), (.bool true), (.bool true), (.agg #[.int .i64 ((b : Nat) : Int), .int .i64 ((n : Nat) : Int), .slice pv m cc]), (.int .i64 ((c : Nat) : Int)), (.pointer (some ⟨g, 1, none⟩)), (.int .i64 ((n : Nat) : Int)), (.bool false), (.bool false), (.agg #[.int .i64 ((b : Nat) : Int), .int .i64 ((n : Nat) : Int), .slice pv m cc]), (.bool false), (.bool false)]) 3 _ _) : a'.eval (.tmp 59) = (.bool true)) (wpO_val _ (exec_lsN rfl ((hdep ⟨5, .data⟩ (by simp) rfl : (KV [(.pointer (some ⟨g + 1, 0, none⟩)), (.int .i64 3), (.bool true), (.bool true), (.agg #[.int .i64 ((b : Nat) : Int), .int .i64 ((n : Nat) : Int), .slice pv m cc]), (.int .i64 ((c : Nat) : Int)), (.pointer (some ⟨g, 1, none⟩)), (.int .i64 ((n : Nat) : Int)), (.bool false), (.bool false), (.agg #[.int .i64 ((b : Nat) : Int), .int .i64 ((n : Nat) : Int), .slice pv m cc]), (.bool false), (.bool false)]) 5 _ _) : a'.eval (.tmp 61) = (.int .i64 ((c : Nat) : Int))) ((hdep ⟨7, .data⟩ (by simp) rfl : (KV [(.pointer (some ⟨g + 1, 0, none⟩)), (.int .i64 3), (.bool true), (.bool true), (.agg #[.int .i64 ((b : Nat) : Int), .int .i64 ((n : Nat) : Int), .slice pv m cc]), (.int .i64 ((c : Nat) : Int)), (.pointer (some ⟨g, 1, none⟩)), (.int .i64 ((n : Nat) : Int)), (.bool false), (.bool false), (.agg #[.int .i64 ((b : Nat) : Int), .int .i64 ((n : Nat) : Int), .slice pv m cc]), (.bool false), (.bool false)]) 7 _ _) : a'.eval (.tmp 63) = (.int .i64 ((n : Nat) : Int))) hcn) (hK _ _ (Below.refl _ _) rfl (fun b h => h.elim)))
        · obtain rfl := Option.some.inj hoj
          exact gG_on rfl ((hdep ⟨3, .guard⟩ (by simp) rfl : (KV [(.pointer (some ⟨g + 1, 0, none⟩)), (.int .i64 3), (.bool true), (.bool true), (.agg #[.int .i64 ((b : Nat) : Int), .int .i64 ((n : Nat) : Int), .slice pv m cc]), (.int .i64 ((c : Nat) : Int)), (.pointer (some ⟨g, 1, none⟩)), (.int .i64 ((n : Nat) : Int)), (.bool false), (.bool false), (.agg #[.int .i64 ((b : Nat) : Int), .int .i64 ((n : Nat) : Int), .slice pv m cc]), (.bool false), (.bool false)]) 3 _ _) : a'.eval (.tmp 59) = (.bool true)) (wpO_val _ (exec_mv rfl ((hdep ⟨8, .data⟩ (by simp) rfl : (KV [(.pointer (some ⟨g + 1, 0, none⟩)), (.int .i64 3), (.bool true), (.bool true), (.agg #[.int .i64 ((b : Nat) : Int), .int .i64 ((n : Nat) : Int), .slice pv m cc]), (.int .i64 ((c : Nat) : Int)), (.pointer (some ⟨g, 1, none⟩)), (.int .i64 ((n : Nat) : Int)), (.bool false), (.bool false), (.agg #[.int .i64 ((b : Nat) : Int), .int .i64 ((n : Nat) : Int), .slice pv m cc]), (.bool false), (.bool false)]) 8 _ _) : a'.eval (.tmp 64) = (.bool false))) (hK _ _ (Below.refl _ _) rfl (fun b h => h.elim)))
        · obtain rfl := Option.some.inj hoj
          exact gG_on rfl ((hdep ⟨9, .guard⟩ (by simp) rfl : (KV [(.pointer (some ⟨g + 1, 0, none⟩)), (.int .i64 3), (.bool true), (.bool true), (.agg #[.int .i64 ((b : Nat) : Int), .int .i64 ((n : Nat) : Int), .slice pv m cc]), (.int .i64 ((c : Nat) : Int)), (.pointer (some ⟨g, 1, none⟩)), (.int .i64 ((n : Nat) : Int)), (.bool false), (.bool false), (.agg #[.int .i64 ((b : Nat) : Int), .int .i64 ((n : Nat) : Int), .slice pv m cc]), (.bool false), (.bool false)]) 9 _ _) : a'.eval (.tmp 65) = (.bool false)) (wpO_val _ (exec_ldDr rfl ((he 2 (by decide)).trans rfl : a'.eval (.tmp 2) = (.pointer (some ⟨g, 0, none⟩))) ca.d) (hK _ _ (Below.refl _ _) rfl (fun b h => h.elim)))
        · obtain rfl := Option.some.inj hoj
          exact gG_on rfl ((hdep ⟨9, .guard⟩ (by simp) rfl : (KV [(.pointer (some ⟨g + 1, 0, none⟩)), (.int .i64 3), (.bool true), (.bool true), (.agg #[.int .i64 ((b : Nat) : Int), .int .i64 ((n : Nat) : Int), .slice pv m cc]), (.int .i64 ((c : Nat) : Int)), (.pointer (some ⟨g, 1, none⟩)), (.int .i64 ((n : Nat) : Int)), (.bool false), (.bool false), (.agg #[.int .i64 ((b : Nat) : Int), .int .i64 ((n : Nat) : Int), .slice pv m cc]), (.bool false), (.bool false)]) 9 _ _) : a'.eval (.tmp 65) = (.bool false)) (wpO_call _ _ (exec_call1 rfl rfl ((hdep ⟨10, .data⟩ (by simp) rfl : (KV [(.pointer (some ⟨g + 1, 0, none⟩)), (.int .i64 3), (.bool true), (.bool true), (.agg #[.int .i64 ((b : Nat) : Int), .int .i64 ((n : Nat) : Int), .slice pv m cc]), (.int .i64 ((c : Nat) : Int)), (.pointer (some ⟨g, 1, none⟩)), (.int .i64 ((n : Nat) : Int)), (.bool false), (.bool false), (.agg #[.int .i64 ((b : Nat) : Int), .int .i64 ((n : Nat) : Int), .slice pv m cc]), (.bool false), (.bool false)]) 10 _ _) : a'.eval (.tmp 66) = (.agg #[.int .i64 ((b : Nat) : Int), .int .i64 ((n : Nat) : Int), .slice pv m cc])) (by go_simp)) ((HOV.out w' cb).mono fun e w'' ⟨h1, h2⟩ => ⟨_, h1, hK _ w'' h2 rfl (fun b h => h.elim)⟩))
        · obtain rfl := Option.some.inj hoj
          exact gG_on rfl ((hdep ⟨3, .guard⟩ (by simp) rfl : (KV [(.pointer (some ⟨g + 1, 0, none⟩)), (.int .i64 3), (.bool true), (.bool true), (.agg #[.int .i64 ((b : Nat) : Int), .int .i64 ((n : Nat) : Int), .slice pv m cc]), (.int .i64 ((c : Nat) : Int)), (.pointer (some ⟨g, 1, none⟩)), (.int .i64 ((n : Nat) : Int)), (.bool false), (.bool false), (.agg #[.int .i64 ((b : Nat) : Int), .int .i64 ((n : Nat) : Int), .slice pv m cc]), (.bool false), (.bool false)]) 3 _ _) : a'.eval (.tmp 59) = (.bool true)) (wpO_val _ (exec_pick rfl ((hdep ⟨9, .data⟩ (by simp) rfl : (KV [(.pointer (some ⟨g + 1, 0, none⟩)), (.int .i64 3), (.bool true), (.bool true), (.agg #[.int .i64 ((b : Nat) : Int), .int .i64 ((n : Nat) : Int), .slice pv m cc]), (.int .i64 ((c : Nat) : Int)), (.pointer (some ⟨g, 1, none⟩)), (.int .i64 ((n : Nat) : Int)), (.bool false), (.bool false), (.agg #[.int .i64 ((b : Nat) : Int), .int .i64 ((n : Nat) : Int), .slice pv m cc]), (.bool false), (.bool false)]) 9 _ _) : a'.eval (.tmp 65) = (.bool false)) (((hdep ⟨11, .data⟩ (by simp) rfl : (KV [(.pointer (some ⟨g + 1, 0, none⟩)), (.int .i64 3), (.bool true), (.bool true), (.agg #[.int .i64 ((b : Nat) : Int), .int .i64 ((n : Nat) : Int), .slice pv m cc]), (.int .i64 ((c : Nat) : Int)), (.pointer (some ⟨g, 1, none⟩)), (.int .i64 ((n : Nat) : Int)), (.bool false), (.bool false), (.agg #[.int .i64 ((b : Nat) : Int), .int .i64 ((n : Nat) : Int), .slice pv m cc]), (.bool false), (.bool false)]) 11 _ _) : a'.eval (.tmp 67) = (.bool false)))) (hK _ _ (Below.refl _ _) rfl (fun b h => h.elim)))
      intro vq w6 hb6 hD _ _
      have hv0 : vq 0 = (.pointer (some ⟨g + 1, 0, none⟩)) := hD 0 (by omega)
      have hv1 : vq 1 = (.int .i64 3) := hD 1 (by omega)
      have hv2 : vq 2 = (.bool true) := hD 2 (by omega)
      have hv3 : vq 3 = (.bool true) := hD 3 (by omega)
      have hv4 : vq 4 = (.agg #[.int .i64 ((b : Nat) : Int), .int .i64 ((n : Nat) : Int), .slice pv m cc]) := hD 4 (by omega)
      have hv5 : vq 5 = (.int .i64 ((c : Nat) : Int)) := hD 5 (by omega)
      have hv6 : vq 6 = (.pointer (some ⟨g, 1, none⟩)) := hD 6 (by omega)
      have hv7 : vq 7 = (.int .i64 ((n : Nat) : Int)) := hD 7 (by omega)
      have hv8 : vq 8 = (.bool false) := hD 8 (by omega)
      have hv9 : vq 9 = (.bool false) := hD 9 (by omega)
      have hv10 : vq 10 = (.agg #[.int .i64 ((b : Nat) : Int), .int .i64 ((n : Nat) : Int), .slice pv m cc]) := hD 10 (by omega)
      have hv11 : vq 11 = (.bool false) := hD 11 (by omega)
      have hv12 : vq 12 = (.bool false) := hD 12 (by omega)
      simp only [puts, Act.put, List.setIfInBounds_toArray, List.set_cons_zero, List.set_cons_succ, hv0, hv1, hv2, hv3, hv4, hv5, hv6, hv7, hv8, hv9, hv10, hv11, hv12, List.drop_succ_cons, List.drop_zero, Nat.zero_add, Nat.reduceAdd]
      have hab := HAB.out.below (hb6.mono HGS.out)
      have hbw := HBW.out.trans (hb6.mono (by have := HGS.out; omega))
      have hgs := Nat.le_trans HGS.out hb6.size
      clear HAB HBW HGS d0 d1 d2 x0 x1 x2 x3 x4 hb6 hD hv0 hv1 hv2 hv3 hv4 hv5 hv6 hv7 hv8 hv9 hv10 hv11 hv12
      generalize w6 = wq at hab hbw hgs ⊢
      have HAB := hid hab
      have HBW := hid hbw
      have HGS := hid hgs
      clear hab hbw hgs
      obtain ⟨d0, d1, d2, x0, x1, x2, x3, x4⟩ := HAB.out.cells
      have hE : EE = 0 := by rw [← HEE0.out]; simp [addE, hc, hcn, hob]
      have HE := hid hE
      clear hE
      go_upto_region 14 with (first
        | (go_at_call 59; refine (HAT.out _ (HG.out.symm ▸ HBW.out)).mono ?_; rintro e wn ⟨rfl, hbn⟩; have hab := HAB.out.below (hbn.mono HGS.out); have hbw := HBW.out.trans (hbn.mono (Nat.le_of_succ_le (Nat.le_of_succ_le (Nat.le_of_succ_le HGS.out)))); have hgs := Nat.le_trans HGS.out hbn.size; clear HAB HBW HGS d0 d1 d2 x0 x1 x2 x3 x4 hbn; have HAB := hid hab; have HBW := hid hbw; have HGS := hid hgs; clear hab hbw hgs; obtain ⟨d0, d1, d2, x0, x1, x2, x3, x4⟩ := HAB.out.cells)
        | fail)
      generalize wq = wb at HAB HBW HGS d0 d1 d2 x0 x1 x2 x3 x4 ⊢
      obtain ⟨B, hBe⟩ : ∃ B, wb.heap.size = B := ⟨_, rfl⟩
      have HGB := hid (hBe ▸ HGS.out : g + 3 ≤ B)
      have HBB := hid (Nat.le_of_eq hBe.symm : B ≤ wb.heap.size)
      have HRB := hid (show ∀ V, Below B wb V → ReadsL V (.slice pv m cc) ls from fun V hV => HR.out.below (HG.out.symm ▸ HBW.out.trans (hV.mono (by have := HGB.out; omega))))
      clear hBe d0 d1 d2 x0 x1 x2 x3 x4
      go_cut [] from 83 to 90 (fun wx => ∃ v6, wx.heap[g]? = some (.cells #[.int .i64 ((b : Nat) : Int), .int .i64 ((n : Nat) : Int), v6] 49 (0, 0)) ∧ wx.heap[g + 2]? = some (.cells #[.int .i64 0, .int .i64 0, .slice none 0 0] 49 (0, 0)) ∧ OwnL wx B v6 (ls ++ [⟨3, xh, xp, xv, xs⟩]) ∧ Below g W wx)
      case first =>
        refine regD (fun V => AddB V g b n (.slice pv m cc) 3 xh xp xv xs) (fun j => !(j == 8)) (by kernel_rfl) ?_
        have hax0 : AddB wb.drew g b n (.slice pv m cc) 3 xh xp xv xs := HAB.out.below (below_drewN (Below.refl _ _) 1)
        have hbx0 : Below B wb wb.drew ∧ B ≤ wb.drew.heap.size := ⟨below_drewN (Below.refl _ _) 1, HBB.out⟩
        generalize wb.drew = x0 at hax0 hbx0 ⊢
        have hS := hax0
        refine takeE (i := 1) (.pointer (some ⟨g, 2, none⟩)) (d := some 84) rfl (by kernel_rfl) (by kernel_rfl) (by kernel_rfl) (by kernel_rfl) (fun _ _ _ h => h) rfl (fun W hSw => by exact exec_fldDr 2 rfl rfl (by simp)) hS rfl ?_
        simp only [Act.put, List.setIfInBounds_toArray, List.set_cons_zero, List.set_cons_succ]
        refine takeE (i := 2) (.slice pv m cc) (d := some 85) rfl (by kernel_rfl) (by kernel_rfl) (by kernel_rfl) (by kernel_rfl) (fun _ _ _ h => h) rfl (fun W hSw => by exact exec_ldLs rfl rfl (cell_of_row _ _ 2 _ _ _ hSw.d)) hS rfl ?_
        simp only [Act.put, List.setIfInBounds_toArray, List.set_cons_zero, List.set_cons_succ]
        refine takeE (i := 4) (.agg #[.int .i64 3, .string xh, .int .i64 xp, .int .i64 xv, .string xs]) (d := some 87) rfl (by kernel_rfl) (by kernel_rfl) (by kernel_rfl) (by kernel_rfl) (fun _ _ _ h => h) rfl (fun W hSw => by exact exec_ldLine rfl rfl hSw.x) hS rfl ?_
        simp only [Act.put, List.setIfInBounds_toArray, List.set_cons_zero, List.set_cons_succ]
        clear hS
        refine stepD2 0 5 (by kernel_rfl) rfl rfl rfl rfl (fun K hK => ?_) (fun K hK => ?_)
        · go_simp
          have hal : Below x0.heap.size x0 (x0.alloc (.cells #[] 56)) := (Below.refl _ _).alloc (Nat.le_refl _) _
          have hmd := OwnL.made x0 B hbx0.2
          refine hK _ _ (fun _ => hax0.below (hal.mono (Nat.le_trans HGB.out hbx0.2))) ?_
          clear hK K
          obtain ⟨kk, hkk⟩ : ∃ k, x0.heap.size = k := ⟨_, rfl⟩
          rw [hkk] at hmd ⊢
          have hkl : kk < (x0.alloc (.cells #[] 56)).heap.size := by simp [hkk]
          generalize x0.alloc (.cells #[] 56) = x1 at hal hmd hkl ⊢
          clear hkk
          have hax1 := hax0.below (hal.mono (Nat.le_trans HGB.out hbx0.2))
          have hbx1 : Below B wb x1 ∧ B ≤ x1.heap.size := ⟨hbx0.1.trans (hal.mono hbx0.2), Nat.le_trans hbx0.2 hal.size⟩
          clear hax0 hbx0 hal
          have hrowx1 := hmd
          clear hmd
          refine stepD2 3 5 (by kernel_rfl) rfl rfl rfl rfl (fun K hK => ?_) (fun K hK => ?_)
          · refine wpO_appL (.tmp 83) (.tmp 85) rfl B (.slice (some ⟨kk, 0, none⟩) 0 0) rfl hrowx1 _ ls rfl (HRB.out x1 hbx1.1) (by omega) hbx1.2 (fun v3 x2 hrowx2 hg3 => hK _ _ (fun _ => hax1.grown hg3 hrowx1.own HGB.out) ?_)
            clear hK K
            have hax2 := hax1.grown hg3 hrowx1.own HGB.out
            have hbx2 : Below B wb x2 ∧ B ≤ x2.heap.size := ⟨hbx1.1.grown hg3 hbx1.2 hrowx1.own, Nat.le_trans hbx1.2 hg3.size⟩
            clear hax1 hbx1 hrowx1 hg3
            refine stepD 5 (by kernel_rfl) rfl rfl (fun K hK => ?_)
            go_simp
            have hal : Below x2.heap.size x2 (x2.alloc (.cells #[.int .i64 3, .string xh, .int .i64 xp, .int .i64 xv, .string xs] 56)) := (Below.refl _ _).alloc (Nat.le_refl _) _
            have hnz := heap_alloc_new x2 (.cells #[.int .i64 3, .string xh, .int .i64 xp, .int .i64 xv, .string xs] 56)
            refine hK _ _ (fun _ => hax2.below (hal.mono (Nat.le_trans HGB.out hbx2.2))) ?_
            clear hK K
            obtain ⟨z8, hz8⟩ : ∃ k, x2.heap.size = k := ⟨_, rfl⟩
            rw [hz8] at hnz ⊢
            generalize x2.alloc (.cells #[.int .i64 3, .string xh, .int .i64 xp, .int .i64 xv, .string xs] 56) = x3 at hal hnz ⊢
            clear hz8
            have hax3 := hax2.below (hal.mono (Nat.le_trans HGB.out hbx2.2))
            have hbx3 : Below B wb x3 ∧ B ≤ x3.heap.size := ⟨hbx2.1.trans (hal.mono hbx2.2), Nat.le_trans hbx2.2 hal.size⟩
            have hrowx3 := hrowx2.below hal
            clear hax2 hbx2 hrowx2 hal
            have hzx3 := hnz
            clear hnz
            refine stepD 6 (by kernel_rfl) rfl rfl (fun K hK => ?_)
            refine wpO_appX (.tmp 86) (.tmp 88) rfl B v3 ls rfl hrowx3 ⟨3, xh, xp, xv, xs⟩ z8 1 rfl hzx3 (by omega) hbx3.2 (fun v6 x4 hrowx4 hg6 => hK _ _ (fun _ => hax3.grown hg6 hrowx3.own HGB.out) ?_)
            clear hK K
            have hax4 := hax3.grown hg6 hrowx3.own HGB.out
            have hbx4 : Below B wb x4 ∧ B ≤ x4.heap.size := ⟨hbx3.1.grown hg6 hbx3.2 hrowx3.own, Nat.le_trans hbx3.2 hg6.size⟩
            clear hax3 hbx3 hrowx3 hg6 hzx3
            obtain ⟨p6, c6, hv6⟩ := hrowx4.reads.form
            obtain ⟨l6, hl6⟩ : ∃ l, (ls ++ [⟨3, xh, xp, xv, xs⟩] : List RL).length = l := ⟨_, rfl⟩
            rw [hl6] at hv6
            subst hv6
            clear hl6
            refine stepD 7 (by kernel_rfl) rfl rfl (fun K hK => ?_)
            go_simp
            refine hK _ _ (fun _ => hax4) ?_
            clear hK K
            have hfz := frozen_of_row _ _ 2 _ _ hax4.d
            have hk2 := cell_of_row _ _ 2 _ _ _ hax4.d
            refine stepD 8 (by kernel_rfl) rfl rfl (fun K hK => ?_)
            go_simp
            have hd9 : (x4.setCell ⟨g, 2, none⟩ (.slice p6 l6 c6)).heap[g]? = some (.cells #[.int .i64 ((b : Nat) : Int), .int .i64 ((n : Nat) : Int), (.slice p6 l6 c6)] 49 (0, 0)) := heap_setCell_same x4 g 2 _ _ _ hax4.d
            have hr9 : (x4.setCell ⟨g, 2, none⟩ (.slice p6 l6 c6)).heap[g + 2]? = some (.cells #[.int .i64 0, .int .i64 0, .slice none 0 0] 49 (0, 0)) := (heap_setCell_other x4 ⟨g, 2, none⟩ (g + 2) _ (by show g + 2 ≠ g; omega)).trans hax4.r
            have hl9 : OwnL (x4.setCell ⟨g, 2, none⟩ (.slice p6 l6 c6)) B (.slice p6 l6 c6) (ls ++ [⟨3, xh, xp, xv, xs⟩]) := OwnL.setLow hrowx4 (by have := HGB.out; omega)
            have hb9 : Below g W (x4.setCell ⟨g, 2, none⟩ (.slice p6 l6 c6)) := (HBW.out.trans (hbx4.1.mono (by have := HGB.out; omega))).setCell (p := ⟨g, 2, none⟩) (Nat.le_refl g) _
            refine hK _ _ (fun h => (by simp at h)) ?_
            clear hK K hfz hk2
            generalize x4.setCell ⟨g, 2, none⟩ (.slice p6 l6 c6) = w9 at hd9 hr9 hl9 hb9 ⊢
            refine doneD (by kernel_rfl) ?_ _
            refine OnlyNorm.normal ?_
            first | go_meet | (go_step; go_meet) | (go_step; go_step; go_meet)
            case rel => exact ⟨(.slice p6 l6 c6), hd9, hr9, hl9, hb9⟩
          · go_simp
            have hal : Below x1.heap.size x1 (x1.alloc (.cells #[.int .i64 3, .string xh, .int .i64 xp, .int .i64 xv, .string xs] 56)) := (Below.refl _ _).alloc (Nat.le_refl _) _
            have hnz := heap_alloc_new x1 (.cells #[.int .i64 3, .string xh, .int .i64 xp, .int .i64 xv, .string xs] 56)
            refine hK _ _ (fun _ => hax1.below (hal.mono (Nat.le_trans HGB.out hbx1.2))) ?_
            clear hK K
            obtain ⟨z8, hz8⟩ : ∃ k, x1.heap.size = k := ⟨_, rfl⟩
            rw [hz8] at hnz ⊢
            have hkz : z8 ≠ kk := by omega
            generalize x1.alloc (.cells #[.int .i64 3, .string xh, .int .i64 xp, .int .i64 xv, .string xs] 56) = x2 at hal hnz ⊢
            clear hz8
            have hax2 := hax1.below (hal.mono (Nat.le_trans HGB.out hbx1.2))
            have hbx2 : Below B wb x2 ∧ B ≤ x2.heap.size := ⟨hbx1.1.trans (hal.mono hbx1.2), Nat.le_trans hbx1.2 hal.size⟩
            have hrowx2 := hrowx1.below hal
            clear hax1 hbx1 hrowx1 hal
            have hzx2 := hnz
            clear hnz
            refine stepD 3 (by kernel_rfl) rfl rfl (fun K hK => ?_)
            refine wpO_appL (.tmp 83) (.tmp 85) rfl B (.slice (some ⟨kk, 0, none⟩) 0 0) rfl hrowx2 _ ls rfl (HRB.out x2 hbx2.1) (by omega) hbx2.2 (fun v3 x3 hrowx3 hg3 => hK _ _ (fun _ => hax2.grown hg3 hrowx2.own HGB.out) ?_)
            clear hK K
            have hax3 := hax2.grown hg3 hrowx2.own HGB.out
            have hbx3 : Below B wb x3 ∧ B ≤ x3.heap.size := ⟨hbx2.1.grown hg3 hbx2.2 hrowx2.own, Nat.le_trans hbx2.2 hg3.size⟩
            have hzx3 := (hg3.block z8 (heap_lt hzx2) (fun e => hkz (by simpa [Value.ownBlock] using e))).trans hzx2
            clear hax2 hbx2 hrowx2 hg3 hzx2
            refine stepD 6 (by kernel_rfl) rfl rfl (fun K hK => ?_)
            refine wpO_appX (.tmp 86) (.tmp 88) rfl B v3 ls rfl hrowx3 ⟨3, xh, xp, xv, xs⟩ z8 1 rfl hzx3 (by omega) hbx3.2 (fun v6 x4 hrowx4 hg6 => hK _ _ (fun _ => hax3.grown hg6 hrowx3.own HGB.out) ?_)
            clear hK K
            have hax4 := hax3.grown hg6 hrowx3.own HGB.out
            have hbx4 : Below B wb x4 ∧ B ≤ x4.heap.size := ⟨hbx3.1.grown hg6 hbx3.2 hrowx3.own, Nat.le_trans hbx3.2 hg6.size⟩
            clear hax3 hbx3 hrowx3 hg6 hzx3
            obtain ⟨p6, c6, hv6⟩ := hrowx4.reads.form
            obtain ⟨l6, hl6⟩ : ∃ l, (ls ++ [⟨3, xh, xp, xv, xs⟩] : List RL).length = l := ⟨_, rfl⟩
            rw [hl6] at hv6
            subst hv6
            clear hl6
            refine stepD 7 (by kernel_rfl) rfl rfl (fun K hK => ?_)
            go_simp
            refine hK _ _ (fun _ => hax4) ?_
            clear hK K
            have hfz := frozen_of_row _ _ 2 _ _ hax4.d
            have hk2 := cell_of_row _ _ 2 _ _ _ hax4.d
            refine stepD 8 (by kernel_rfl) rfl rfl (fun K hK => ?_)
            go_simp
            have hd9 : (x4.setCell ⟨g, 2, none⟩ (.slice p6 l6 c6)).heap[g]? = some (.cells #[.int .i64 ((b : Nat) : Int), .int .i64 ((n : Nat) : Int), (.slice p6 l6 c6)] 49 (0, 0)) := heap_setCell_same x4 g 2 _ _ _ hax4.d
            have hr9 : (x4.setCell ⟨g, 2, none⟩ (.slice p6 l6 c6)).heap[g + 2]? = some (.cells #[.int .i64 0, .int .i64 0, .slice none 0 0] 49 (0, 0)) := (heap_setCell_other x4 ⟨g, 2, none⟩ (g + 2) _ (by show g + 2 ≠ g; omega)).trans hax4.r
            have hl9 : OwnL (x4.setCell ⟨g, 2, none⟩ (.slice p6 l6 c6)) B (.slice p6 l6 c6) (ls ++ [⟨3, xh, xp, xv, xs⟩]) := OwnL.setLow hrowx4 (by have := HGB.out; omega)
            have hb9 : Below g W (x4.setCell ⟨g, 2, none⟩ (.slice p6 l6 c6)) := (HBW.out.trans (hbx4.1.mono (by have := HGB.out; omega))).setCell (p := ⟨g, 2, none⟩) (Nat.le_refl g) _
            refine hK _ _ (fun h => (by simp at h)) ?_
            clear hK K hfz hk2
            generalize x4.setCell ⟨g, 2, none⟩ (.slice p6 l6 c6) = w9 at hd9 hr9 hl9 hb9 ⊢
            refine doneD (by kernel_rfl) ?_ _
            refine OnlyNorm.normal ?_
            first | go_meet | (go_step; go_meet) | (go_step; go_step; go_meet)
            case rel => exact ⟨(.slice p6 l6 c6), hd9, hr9, hl9, hb9⟩
        · go_simp
          have hal : Below x0.heap.size x0 (x0.alloc (.cells #[.int .i64 3, .string xh, .int .i64 xp, .int .i64 xv, .string xs] 56)) := (Below.refl _ _).alloc (Nat.le_refl _) _
          have hnz := heap_alloc_new x0 (.cells #[.int .i64 3, .string xh, .int .i64 xp, .int .i64 xv, .string xs] 56)
          refine hK _ _ (fun _ => hax0.below (hal.mono (Nat.le_trans HGB.out hbx0.2))) ?_
          clear hK K
          obtain ⟨z8, hz8⟩ : ∃ k, x0.heap.size = k := ⟨_, rfl⟩
          rw [hz8] at hnz ⊢
          generalize x0.alloc (.cells #[.int .i64 3, .string xh, .int .i64 xp, .int .i64 xv, .string xs] 56) = x1 at hal hnz ⊢
          clear hz8
          have hax1 := hax0.below (hal.mono (Nat.le_trans HGB.out hbx0.2))
          have hbx1 : Below B wb x1 ∧ B ≤ x1.heap.size := ⟨hbx0.1.trans (hal.mono hbx0.2), Nat.le_trans hbx0.2 hal.size⟩
          clear hax0 hbx0 hal
          have hzx1 := hnz
          clear hnz
          refine stepD 0 (by kernel_rfl) rfl rfl (fun K hK => ?_)
          go_simp
          have hal : Below x1.heap.size x1 (x1.alloc (.cells #[] 56)) := (Below.refl _ _).alloc (Nat.le_refl _) _
          have hmd := OwnL.made x1 B hbx1.2
          refine hK _ _ (fun _ => hax1.below (hal.mono (Nat.le_trans HGB.out hbx1.2))) ?_
          clear hK K
          obtain ⟨kk, hkk⟩ : ∃ k, x1.heap.size = k := ⟨_, rfl⟩
          rw [hkk] at hmd ⊢
          have hkz : z8 ≠ kk := by have := heap_lt hzx1; omega
          generalize x1.alloc (.cells #[] 56) = x2 at hal hmd ⊢
          clear hkk
          have hax2 := hax1.below (hal.mono (Nat.le_trans HGB.out hbx1.2))
          have hbx2 : Below B wb x2 ∧ B ≤ x2.heap.size := ⟨hbx1.1.trans (hal.mono hbx1.2), Nat.le_trans hbx1.2 hal.size⟩
          have hzx2 := heap_below hal hzx1 (heap_lt hzx1)
          clear hax1 hbx1 hzx1 hal
          have hrowx2 := hmd
          clear hmd
          refine stepD 3 (by kernel_rfl) rfl rfl (fun K hK => ?_)
          refine wpO_appL (.tmp 83) (.tmp 85) rfl B (.slice (some ⟨kk, 0, none⟩) 0 0) rfl hrowx2 _ ls rfl (HRB.out x2 hbx2.1) (by omega) hbx2.2 (fun v3 x3 hrowx3 hg3 => hK _ _ (fun _ => hax2.grown hg3 hrowx2.own HGB.out) ?_)
          clear hK K
          have hax3 := hax2.grown hg3 hrowx2.own HGB.out
          have hbx3 : Below B wb x3 ∧ B ≤ x3.heap.size := ⟨hbx2.1.grown hg3 hbx2.2 hrowx2.own, Nat.le_trans hbx2.2 hg3.size⟩
          have hzx3 := (hg3.block z8 (heap_lt hzx2) (fun e => hkz (by simpa [Value.ownBlock] using e))).trans hzx2
          clear hax2 hbx2 hrowx2 hg3 hzx2
          refine stepD 6 (by kernel_rfl) rfl rfl (fun K hK => ?_)
          refine wpO_appX (.tmp 86) (.tmp 88) rfl B v3 ls rfl hrowx3 ⟨3, xh, xp, xv, xs⟩ z8 1 rfl hzx3 (by omega) hbx3.2 (fun v6 x4 hrowx4 hg6 => hK _ _ (fun _ => hax3.grown hg6 hrowx3.own HGB.out) ?_)
          clear hK K
          have hax4 := hax3.grown hg6 hrowx3.own HGB.out
          have hbx4 : Below B wb x4 ∧ B ≤ x4.heap.size := ⟨hbx3.1.grown hg6 hbx3.2 hrowx3.own, Nat.le_trans hbx3.2 hg6.size⟩
          clear hax3 hbx3 hrowx3 hg6 hzx3
          obtain ⟨p6, c6, hv6⟩ := hrowx4.reads.form
          obtain ⟨l6, hl6⟩ : ∃ l, (ls ++ [⟨3, xh, xp, xv, xs⟩] : List RL).length = l := ⟨_, rfl⟩
          rw [hl6] at hv6
          subst hv6
          clear hl6
          refine stepD 7 (by kernel_rfl) rfl rfl (fun K hK => ?_)
          go_simp
          refine hK _ _ (fun _ => hax4) ?_
          clear hK K
          have hfz := frozen_of_row _ _ 2 _ _ hax4.d
          have hk2 := cell_of_row _ _ 2 _ _ _ hax4.d
          refine stepD 8 (by kernel_rfl) rfl rfl (fun K hK => ?_)
          go_simp
          have hd9 : (x4.setCell ⟨g, 2, none⟩ (.slice p6 l6 c6)).heap[g]? = some (.cells #[.int .i64 ((b : Nat) : Int), .int .i64 ((n : Nat) : Int), (.slice p6 l6 c6)] 49 (0, 0)) := heap_setCell_same x4 g 2 _ _ _ hax4.d
          have hr9 : (x4.setCell ⟨g, 2, none⟩ (.slice p6 l6 c6)).heap[g + 2]? = some (.cells #[.int .i64 0, .int .i64 0, .slice none 0 0] 49 (0, 0)) := (heap_setCell_other x4 ⟨g, 2, none⟩ (g + 2) _ (by show g + 2 ≠ g; omega)).trans hax4.r
          have hl9 : OwnL (x4.setCell ⟨g, 2, none⟩ (.slice p6 l6 c6)) B (.slice p6 l6 c6) (ls ++ [⟨3, xh, xp, xv, xs⟩]) := OwnL.setLow hrowx4 (by have := HGB.out; omega)
          have hb9 : Below g W (x4.setCell ⟨g, 2, none⟩ (.slice p6 l6 c6)) := (HBW.out.trans (hbx4.1.mono (by have := HGB.out; omega))).setCell (p := ⟨g, 2, none⟩) (Nat.le_refl g) _
          refine hK _ _ (fun h => (by simp at h)) ?_
          clear hK K hfz hk2
          generalize x4.setCell ⟨g, 2, none⟩ (.slice p6 l6 c6) = w9 at hd9 hr9 hl9 hb9 ⊢
          refine doneD (by kernel_rfl) ?_ _
          refine OnlyNorm.normal ?_
          first | go_meet | (go_step; go_meet) | (go_step; go_step; go_meet)
          case rel => exact ⟨(.slice p6 l6 c6), hd9, hr9, hl9, hb9⟩
      case rest =>
        obtain ⟨v6, hd9, hr9, hl9, hb9⟩ := hcut
        obtain ⟨p6, c6, hv6⟩ := hl9.reads.form
        obtain ⟨l6, hl6⟩ : ∃ l, (ls ++ [⟨3, xh, xp, xv, xs⟩] : List RL).length = l := ⟨_, rfl⟩
        rw [hl6] at hv6
        subst hv6
        clear hl6
        have HF := hid (And.intro hl9 hb9)
        have HRW := hid hr9
        have d0 := cell_of_row _ _ 0 _ _ _ hd9
        have d1 := cell_of_row _ _ 1 _ _ _ hd9
        have d2 := cell_of_row _ _ 2 _ _ _ hd9
        clear hd9 hr9 hl9 hb9
        go_wp2_with (refine wpList_store_row rfl 49 (.tmp 4) (.tmp 91) rfl (g + 2) #[.int .i64 ((b : Nat) : Int), .int .i64 ((n : Nat) : Int), .slice p6 l6 c6] rfl rfl 49 _ HRW.out (show (Tryz.prog.info? 49).map (·.size) = some 3 by kernel_rfl) rfl (drw_one _ _ _ _ _) ?_)
        refine bodyPost_ret (results_drw Tryz.results19 rfl rfl (setRow_at HRW.out)) rfl ⟨_, by rw [HE.out]; rfl, ?_⟩
        refine (fun (hB : Below W.heap.size W _) => ⟨by rw [← HLE0.out, addL, HEE0.out, HE.out, if_pos rfl]; exact OwnL.reads (OwnL.setRowLow HF.out.1 (by have := HGB.out; omega)), hB⟩) ?_
        rw [HG.out]
        exact HF.out.2.trans (setRow_below (Nat.le_add_right g 2))
set_option maxHeartbeats 16000000 in
theorem radd2_c (b n : Nat) (hb2 : b ≤ 1000000000) (hn : n ≤ 1000) (v : Value) (ls : List RL) (xh : ByteArray) (xp xv : Int) (xs : ByteArray) (W : World) (hr : ReadsL W v ls) (hl : ls.length ≤ 100000) (hsz : xh.size ≤ 1000000) (hss : xs.size ≤ 1000000) :
    Calls Tryz.prog 19 #[.agg #[.int .i64 ((b : Nat) : Int), .int .i64 ((n : Nat) : Int), v], .agg #[.int .i64 2, .string xh, .int .i64 xp, .int .i64 xv, .string xs]] W fun e w' => ∃ v', e = .returned (.tuple #[.agg #[.int .i64 ((b : Nat) : Int), .int .i64 ((n : Nat) : Int), v'], .int .i64 (addE b n ls ⟨2, xh, xp, xv, xs⟩)]) ∧ ReadsL w' v' (addL b n ls ⟨2, xh, xp, xv, xs⟩) ∧ Below W.heap.size W w' := by
  obtain ⟨pv, cc, rfl⟩ := hr.form
  obtain ⟨m, hm⟩ : ∃ m, ls.length = m := ⟨_, rfl⟩
  rw [hm] at hr ⊢
  have HIN1 := hid (fun V => rin_c xp 1 ((n : Nat) : Int) V)
  have HIN2 := hid (fun V => rin_c xv 0 (((b : Nat) : Int) - 1) V)
  have HHX := hid (fun V => rhex_c xh hsz V)
  have HSA := hid (fun V => rsalt_c xs hss V)
  have HCT := hid (fun V (hV : Below W.heap.size W V) => rcount_c ((b : Nat) : Int) n (by omega) (.slice pv m cc) ls 1 V (hr.below hV) (by omega))
  have HOV := hid (fun V (hV : Below W.heap.size W V) => rover_c ((b : Nat) : Int) n (by omega) (.slice pv m cc) ls V (hr.below hV) (by omega))
  have HAT := hid (fun V (hV : Below W.heap.size W V) => rat_c ((b : Nat) : Int) ((n : Nat) : Int) (.slice pv m cc) ls 2 xp V (hr.below hV) (by omega))
  obtain ⟨EE, hEE⟩ : ∃ E, addE b n ls ⟨2, xh, xp, xv, xs⟩ = E := ⟨_, rfl⟩
  obtain ⟨LE, hLE⟩ : ∃ l, addL b n ls ⟨2, xh, xp, xv, xs⟩ = l := ⟨_, rfl⟩
  rw [hEE, hLE]
  have hx := heap_alloc_new W (.cells #[.int .i64 ((b : Nat) : Int), .int .i64 ((n : Nat) : Int), .slice pv m cc] 49)
  obtain ⟨U1, hU1⟩ : ∃ U, W.alloc (.cells #[.int .i64 ((b : Nat) : Int), .int .i64 ((n : Nat) : Int), .slice pv m cc] 49) = U := ⟨_, rfl⟩
  have hs1 : U1.heap.size = W.heap.size + 1 := by rw [← hU1]; simp
  have hb1 : Below W.heap.size W U1 := by rw [← hU1]; exact (Below.refl _ _).alloc (Nat.le_refl _) _
  rw [hU1] at hx
  have hy := heap_alloc_new U1 (.cells #[.int .i64 2, .string xh, .int .i64 xp, .int .i64 xv, .string xs] 56)
  obtain ⟨U2, hU2⟩ : ∃ U, U1.alloc (.cells #[.int .i64 2, .string xh, .int .i64 xp, .int .i64 xv, .string xs] 56) = U := ⟨_, rfl⟩
  have hs2 : U2.heap.size = W.heap.size + 2 := by rw [← hU2]; simp [hs1]
  have hb2' : Below U1.heap.size U1 U2 := by rw [← hU2]; exact (Below.refl _ _).alloc (Nat.le_refl _) _
  rw [hU2, hs1] at hy
  have hz := heap_alloc_new U2 (.cells #[.int .i64 0, .int .i64 0, .slice none 0 0] 49)
  have hb3 : Below U2.heap.size U2 (U2.alloc (.cells #[.int .i64 0, .int .i64 0, .slice none 0 0] 49)) := (Below.refl _ _).alloc (Nat.le_refl _) _
  rw [hs2] at hz
  have hab : AddB (U2.alloc (.cells #[.int .i64 0, .int .i64 0, .slice none 0 0] 49)) W.heap.size b n (.slice pv m cc) 2 xh xp xv xs :=
    ⟨heap_below hb3 (heap_below hb2' hx (heap_lt hx)) (by omega), heap_below hb3 hy (heap_lt hy), hz⟩
  have hbw : Below W.heap.size W (U2.alloc (.cells #[.int .i64 0, .int .i64 0, .slice none 0 0] 49)) := hb1.trans ((hb2'.trans (hb3.mono (by omega))).mono (by omega))
  have hgs : W.heap.size + 3 ≤ (U2.alloc (.cells #[.int .i64 0, .int .i64 0, .slice none 0 0] 49)).heap.size := by simp [hs2]
  rw [← hU2, ← hU1] at hab hbw hgs
  have HEE0 := hid hEE
  have HLE0 := hid hLE
  have HR := hid hr
  have HM := hid hm
  clear hr hm hEE hLE hx hy hz hb1 hb2' hb3 hs1 hs2 hU1 hU2
  go_enter Tryz.func19, Tryz.ntmps19
  go_upto_region 1 with fail
  generalize ((W.alloc (.cells #[.int .i64 ((b : Nat) : Int), .int .i64 ((n : Nat) : Int), .slice pv m cc] 49)).alloc (.cells #[.int .i64 2, .string xh, .int .i64 xp, .int .i64 xv, .string xs] 56)).alloc (.cells #[.int .i64 0, .int .i64 0, .slice none 0 0] 49) = W0 at hab hbw hgs ⊢
  obtain ⟨g, hg⟩ : ∃ g, W.heap.size = g := ⟨_, rfl⟩
  try simp only [World.size_alloc, Nat.add_assoc, Nat.reduceAdd]
  rw [hg] at hab hbw hgs ⊢
  have HG := hid hg
  have HAB := hid hab
  have HBW := hid hbw
  have HGS := hid hgs
  clear hg hab hbw hgs
  obtain ⟨d0, d1, d2, x0, x1, x2, x3, x4⟩ := HAB.out.cells
  obtain ⟨c, hc⟩ : ∃ c, cntL 1 ls n = c := ⟨_, rfl⟩
  rw [hc] at HCT
  obtain ⟨ob, hob⟩ : ∃ i, overL n ls = i := ⟨_, rfl⟩
  rw [hob] at HOV
  obtain ⟨i1, hi1⟩ : ∃ i, (decide (1 ≤ xp) && decide (xp ≤ ((n : Nat) : Int))) = i := ⟨_, rfl⟩
  rw [hi1] at HIN1
  obtain ⟨v1, hv1⟩ : ∃ i, (decide (0 ≤ xv) && decide (xv ≤ ((b : Nat) : Int) - 1)) = i := ⟨_, rfl⟩
  rw [hv1] at HIN2
  obtain ⟨q2, hq2⟩ : ∃ i, isSaltL xs.data.toList = i := ⟨_, rfl⟩
  rw [hq2] at HSA
  obtain ⟨a, ha⟩ : ∃ a, atL 2 xp ls = a := ⟨_, rfl⟩
  rw [ha] at HAT
  have hbw1 : IntKind.i64.wrap (((b : Nat) : Int) - 1) = ((b : Nat) : Int) - 1 := IntWalk.i64_in _ (by omega)
  have FL := hid trivial
  cases i1 with
  | false =>
    have hE : EE = 7 := by rw [← HEE0.out]; simp [addE, hi1]
    have HE := hid hE
    clear hE
    go_wp2_with (first
      | (go_at_call 32; refine (HIN1.out _).mono ?_; rintro e wn ⟨rfl, rfl⟩)
      | fail
      | (refine wpList_store_row rfl 49 (.tmp 4) (.tmp 20) rfl (g + 2) #[.int .i64 ((b : Nat) : Int), .int .i64 ((n : Nat) : Int), .slice pv m cc] rfl rfl 49 _ HAB.out.r (show (Tryz.prog.info? 49).map (·.size) = some 3 by kernel_rfl) rfl (drw_one _ _ _ _ _) ?_))
    refine bodyPost_ret (results_drw Tryz.results19 rfl rfl (setRow_at HAB.out.r)) rfl ⟨_, by rw [HE.out]; rfl, ?_⟩
    refine (fun (hB : Below W.heap.size W _) => ⟨by rw [← HLE0.out, addL, HEE0.out, HE.out, if_neg (by decide)]; exact HR.out.below hB, hB⟩) ?_
    rw [HG.out]
    exact HBW.out.trans (setRow_below (Nat.le_add_right g 2))
  | true =>
    cases v1 with
    | false =>
      have hE : EE = 3 := by rw [← HEE0.out]; simp [addE, hi1, hv1]
      have HE := hid hE
      clear hE
      go_wp2_with (first
        | (go_at_call 32; have hq := FL; clear hq FL; refine (HIN1.out _).mono ?_; rintro e wn ⟨rfl, rfl⟩)
        | (go_at_call 32; refine (HIN2.out _).mono ?_; rintro e wn ⟨rfl, rfl⟩)
        | fail
        | (refine wpList_store_row rfl 49 (.tmp 4) (.tmp 44) rfl (g + 2) #[.int .i64 ((b : Nat) : Int), .int .i64 ((n : Nat) : Int), .slice pv m cc] rfl rfl 49 _ HAB.out.r (show (Tryz.prog.info? 49).map (·.size) = some 3 by kernel_rfl) rfl (drw_one _ _ _ _ _) ?_))
      refine bodyPost_ret (results_drw Tryz.results19 rfl rfl (setRow_at HAB.out.r)) rfl ⟨_, by rw [HE.out]; rfl, ?_⟩
      refine (fun (hB : Below W.heap.size W _) => ⟨by rw [← HLE0.out, addL, HEE0.out, HE.out, if_neg (by decide)]; exact HR.out.below hB, hB⟩) ?_
      rw [HG.out]
      exact HBW.out.trans (setRow_below (Nat.le_add_right g 2))
    | true =>
      cases q2 with
      | false =>
        have hE : EE = 4 := by rw [← HEE0.out]; simp [addE, hi1, hv1, hq2]
        have HE := hid hE
        clear hE
        go_wp2_with (first
          | (go_at_call 32; have hq := FL; clear hq FL; refine (HIN1.out _).mono ?_; rintro e wn ⟨rfl, rfl⟩)
          | (go_at_call 32; refine (HIN2.out _).mono ?_; rintro e wn ⟨rfl, rfl⟩)
          | (go_at_call 33; refine (HSA.out _).mono ?_; rintro e wn ⟨rfl, hwn⟩; subst wn)
          | fail
          | (refine wpList_store_row rfl 49 (.tmp 4) (.tmp 55) rfl (g + 2) #[.int .i64 ((b : Nat) : Int), .int .i64 ((n : Nat) : Int), .slice pv m cc] rfl rfl 49 _ HAB.out.r (show (Tryz.prog.info? 49).map (·.size) = some 3 by kernel_rfl) rfl (drw_one _ _ _ _ _) ?_))
        refine bodyPost_ret (results_drw Tryz.results19 rfl rfl (setRow_at HAB.out.r)) rfl ⟨_, by rw [HE.out]; rfl, ?_⟩
        refine (fun (hB : Below W.heap.size W _) => ⟨by rw [← HLE0.out, addL, HEE0.out, HE.out, if_neg (by decide)]; exact HR.out.below hB, hB⟩) ?_
        rw [HG.out]
        exact HBW.out.trans (setRow_below (Nat.le_add_right g 2))
      | true =>
        go_upto_region 10 with (first
          | (go_at_call 32; have hq := FL; clear hq FL; refine (HIN1.out _).mono ?_; rintro e wn ⟨rfl, rfl⟩)
          | (go_at_call 32; refine (HIN2.out _).mono ?_; rintro e wn ⟨rfl, rfl⟩)
          | (go_at_call 33; refine (HSA.out _).mono ?_; rintro e wn ⟨rfl, hwn⟩; subst wn)
          | fail)
        cases hcn : decide (c < n) with
        | true =>
          refine grow_regionG 13 [56, 57, 58, 59, 60, 61, 62, 63, 64, 65, 66, 67, 68] (by kernel_rfl) (by kernel_rfl) (KV [(.pointer (some ⟨g + 1, 0, none⟩)), (.int .i64 2), (.bool true), (.bool true), (.agg #[.int .i64 ((b : Nat) : Int), .int .i64 ((n : Nat) : Int), .slice pv m cc]), (.int .i64 ((c : Nat) : Int)), (.pointer (some ⟨g, 1, none⟩)), (.int .i64 ((n : Nat) : Int)), (.bool true), (.bool true), undef, undef, (.bool true)]) (fun _ _ _ => False) (fun _ _ _ _ _ h => h) (fun _ _ _ _ _ h => h.elim) ?_ ?_
          · intro jq oj hjq hoj a' w' hb' he hdep K hK
            have ca := HAB.out.below (hb'.mono HGS.out)
            have cb : Below W.heap.size W w' := HG.out.symm ▸ HBW.out.trans (hb'.mono (by have := HGS.out; omega))
            rcases (show jq = 0 ∨ jq = 1 ∨ jq = 2 ∨ jq = 3 ∨ jq = 4 ∨ jq = 5 ∨ jq = 6 ∨ jq = 7 ∨ jq = 8 ∨ jq = 9 ∨ jq = 10 ∨ jq = 11 ∨ jq = 12 by omega) with rfl | rfl | rfl | rfl | rfl | rfl | rfl | rfl | rfl | rfl | rfl | rfl | rfl
            · obtain rfl := Option.some.inj hoj
              exact gG_none rfl (wpO_val _ (exec_fldL 0 rfl ((he 3 (by decide)).trans rfl : a'.eval (.tmp 3) = (.pointer (some ⟨g + 1, 0, none⟩))) (by simp)) (hK _ _ (Below.refl _ _) rfl (fun b h => h.elim)))
            · obtain rfl := Option.some.inj hoj
              exact gG_none rfl (wpO_val _ (exec_ldcellB rfl ((hdep ⟨0, .data⟩ (by simp) rfl : (KV [(.pointer (some ⟨g + 1, 0, none⟩)), (.int .i64 2), (.bool true), (.bool true), (.agg #[.int .i64 ((b : Nat) : Int), .int .i64 ((n : Nat) : Int), .slice pv m cc]), (.int .i64 ((c : Nat) : Int)), (.pointer (some ⟨g, 1, none⟩)), (.int .i64 ((n : Nat) : Int)), (.bool true), (.bool true), undef, undef, (.bool true)]) 0 _ _) : a'.eval (.tmp 56) = (.pointer (some ⟨g + 1, 0, none⟩))) (cell_of_row _ _ 0 _ _ _ ca.x)) (hK _ _ (Below.refl _ _) rfl (fun b h => h.elim)))
            · obtain rfl := Option.some.inj hoj
              exact gG_none rfl (wpO_val _ (exec_neK rfl ((hdep ⟨1, .data⟩ (by simp) rfl : (KV [(.pointer (some ⟨g + 1, 0, none⟩)), (.int .i64 2), (.bool true), (.bool true), (.agg #[.int .i64 ((b : Nat) : Int), .int .i64 ((n : Nat) : Int), .slice pv m cc]), (.int .i64 ((c : Nat) : Int)), (.pointer (some ⟨g, 1, none⟩)), (.int .i64 ((n : Nat) : Int)), (.bool true), (.bool true), undef, undef, (.bool true)]) 1 _ _) : a'.eval (.tmp 57) = (.int .i64 2)) rfl (by decide)) (hK _ _ (Below.refl _ _) rfl (fun b h => h.elim)))
            · obtain rfl := Option.some.inj hoj
              exact gG_none rfl (wpO_val _ (exec_mv rfl ((hdep ⟨2, .data⟩ (by simp) rfl : (KV [(.pointer (some ⟨g + 1, 0, none⟩)), (.int .i64 2), (.bool true), (.bool true), (.agg #[.int .i64 ((b : Nat) : Int), .int .i64 ((n : Nat) : Int), .slice pv m cc]), (.int .i64 ((c : Nat) : Int)), (.pointer (some ⟨g, 1, none⟩)), (.int .i64 ((n : Nat) : Int)), (.bool true), (.bool true), undef, undef, (.bool true)]) 2 _ _) : a'.eval (.tmp 58) = (.bool true))) (hK _ _ (Below.refl _ _) rfl (fun b h => h.elim)))
            · obtain rfl := Option.some.inj hoj
              exact gG_on rfl ((hdep ⟨3, .guard⟩ (by simp) rfl : (KV [(.pointer (some ⟨g + 1, 0, none⟩)), (.int .i64 2), (.bool true), (.bool true), (.agg #[.int .i64 ((b : Nat) : Int), .int .i64 ((n : Nat) : Int), .slice pv m cc]), (.int .i64 ((c : Nat) : Int)), (.pointer (some ⟨g, 1, none⟩)), (.int .i64 ((n : Nat) : Int)), (.bool true), (.bool true), undef, undef, (.bool true)]) 3 _ _) : a'.eval (.tmp 59) = (.bool true)) (wpO_val _ (exec_ldDr rfl ((he 2 (by decide)).trans rfl : a'.eval (.tmp 2) = (.pointer (some ⟨g, 0, none⟩))) ca.d) (hK _ _ (Below.refl _ _) rfl (fun b h => h.elim)))
            · obtain rfl := Option.some.inj hoj
              exact gG_on rfl ((hdep ⟨3, .guard⟩ (by simp) rfl : (KV [(.pointer (some ⟨g + 1, 0, none⟩)), (.int .i64 2), (.bool true), (.bool true), (.agg #[.int .i64 ((b : Nat) : Int), .int .i64 ((n : Nat) : Int), .slice pv m cc]), (.int .i64 ((c : Nat) : Int)), (.pointer (some ⟨g, 1, none⟩)), (.int .i64 ((n : Nat) : Int)), (.bool true), (.bool true), undef, undef, (.bool true)]) 3 _ _) : a'.eval (.tmp 59) = (.bool true)) (wpO_call _ _ (exec_call2 rfl rfl ((hdep ⟨4, .data⟩ (by simp) rfl : (KV [(.pointer (some ⟨g + 1, 0, none⟩)), (.int .i64 2), (.bool true), (.bool true), (.agg #[.int .i64 ((b : Nat) : Int), .int .i64 ((n : Nat) : Int), .slice pv m cc]), (.int .i64 ((c : Nat) : Int)), (.pointer (some ⟨g, 1, none⟩)), (.int .i64 ((n : Nat) : Int)), (.bool true), (.bool true), undef, undef, (.bool true)]) 4 _ _) : a'.eval (.tmp 60) = (.agg #[.int .i64 ((b : Nat) : Int), .int .i64 ((n : Nat) : Int), .slice pv m cc])) rfl (by go_simp)) ((HCT.out w' cb).mono fun e w'' ⟨h1, h2⟩ => ⟨_, h1, hK _ w'' h2 rfl (fun b h => h.elim)⟩))
            · obtain rfl := Option.some.inj hoj
              exact gG_on rfl ((hdep ⟨3, .guard⟩ (by simp) rfl : (KV [(.pointer (some ⟨g + 1, 0, none⟩)), (.int .i64 2), (.bool true), (.bool true), (.agg #[.int .i64 ((b : Nat) : Int), .int .i64 ((n : Nat) : Int), .slice pv m cc]), (.int .i64 ((c : Nat) : Int)), (.pointer (some ⟨g, 1, none⟩)), (.int .i64 ((n : Nat) : Int)), (.bool true), (.bool true), undef, undef, (.bool true)]) 3 _ _) : a'.eval (.tmp 59) = (.bool true)) (wpO_val _ (exec_fldDr 1 rfl ((he 2 (by decide)).trans rfl : a'.eval (.tmp 2) = (.pointer (some ⟨g, 0, none⟩))) (by simp)) (hK _ _ (Below.refl _ _) rfl (fun b h => h.elim)))
            · obtain rfl := Option.some.inj hoj
              exact gG_on rfl ((hdep ⟨3, .guard⟩ (by simp) rfl : (KV [(.pointer (some ⟨g + 1, 0, none⟩)), (.int .i64 2), (.bool true), (.bool true), (.agg #[.int .i64 ((b : Nat) : Int), .int .i64 ((n : Nat) : Int), .slice pv m cc]), (.int .i64 ((c : Nat) : Int)), (.pointer (some ⟨g, 1, none⟩)), (.int .i64 ((n : Nat) : Int)), (.bool true), (.bool true), undef, undef, (.bool true)]) 3 _ _) : a'.eval (.tmp 59) = (.bool true)) (wpO_val _ (exec_ldcellB rfl ((hdep ⟨6, .data⟩ (by simp) rfl : (KV [(.pointer (some ⟨g + 1, 0, none⟩)), (.int .i64 2), (.bool true), (.bool true), (.agg #[.int .i64 ((b : Nat) : Int), .int .i64 ((n : Nat) : Int), .slice pv m cc]), (.int .i64 ((c : Nat) : Int)), (.pointer (some ⟨g, 1, none⟩)), (.int .i64 ((n : Nat) : Int)), (.bool true), (.bool true), undef, undef, (.bool true)]) 6 _ _) : a'.eval (.tmp 62) = (.pointer (some ⟨g, 1, none⟩))) (cell_of_row _ _ 1 _ _ _ ca.d)) (hK _ _ (Below.refl _ _) rfl (fun b h => h.elim)))
            · obtain rfl := Option.some.inj hoj
              exact gG_on rfl ((hdep ⟨3, .guard⟩ (by simp) rfl : (KV [(.pointer (some ⟨g + 1, 0, none⟩)), (.int .i64 2), (.bool true), (.bool true), (.agg #[.int .i64 ((b : Nat) : Int), .int .i64 ((n : Nat) : Int), .slice pv m cc]), (.int .i64 ((c : Nat) : Int)), (.pointer (some ⟨g, 1, none⟩)), (.int .i64 ((n : Nat) : Int)), (.bool true), (.bool true), undef, undef, (.bool true)]) 3 _ _) : a'.eval (.tmp 59) = (.bool true)) (wpO_val _ (exec_lsN rfl ((hdep ⟨5, .data⟩ (by simp) rfl : (KV [(.pointer (some ⟨g + 1, 0, none⟩)), (.int .i64 2), (.bool true), (.bool true), (.agg #[.int .i64 ((b : Nat) : Int), .int .i64 ((n : Nat) : Int), .slice pv m cc]), (.int .i64 ((c : Nat) : Int)), (.pointer (some ⟨g, 1, none⟩)), (.int .i64 ((n : Nat) : Int)), (.bool true), (.bool true), undef, undef, (.bool true)]) 5 _ _) : a'.eval (.tmp 61) = (.int .i64 ((c : Nat) : Int))) ((hdep ⟨7, .data⟩ (by simp) rfl : (KV [(.pointer (some ⟨g + 1, 0, none⟩)), (.int .i64 2), (.bool true), (.bool true), (.agg #[.int .i64 ((b : Nat) : Int), .int .i64 ((n : Nat) : Int), .slice pv m cc]), (.int .i64 ((c : Nat) : Int)), (.pointer (some ⟨g, 1, none⟩)), (.int .i64 ((n : Nat) : Int)), (.bool true), (.bool true), undef, undef, (.bool true)]) 7 _ _) : a'.eval (.tmp 63) = (.int .i64 ((n : Nat) : Int))) hcn) (hK _ _ (Below.refl _ _) rfl (fun b h => h.elim)))
            · obtain rfl := Option.some.inj hoj
              exact gG_on rfl ((hdep ⟨3, .guard⟩ (by simp) rfl : (KV [(.pointer (some ⟨g + 1, 0, none⟩)), (.int .i64 2), (.bool true), (.bool true), (.agg #[.int .i64 ((b : Nat) : Int), .int .i64 ((n : Nat) : Int), .slice pv m cc]), (.int .i64 ((c : Nat) : Int)), (.pointer (some ⟨g, 1, none⟩)), (.int .i64 ((n : Nat) : Int)), (.bool true), (.bool true), undef, undef, (.bool true)]) 3 _ _) : a'.eval (.tmp 59) = (.bool true)) (wpO_val _ (exec_mv rfl ((hdep ⟨8, .data⟩ (by simp) rfl : (KV [(.pointer (some ⟨g + 1, 0, none⟩)), (.int .i64 2), (.bool true), (.bool true), (.agg #[.int .i64 ((b : Nat) : Int), .int .i64 ((n : Nat) : Int), .slice pv m cc]), (.int .i64 ((c : Nat) : Int)), (.pointer (some ⟨g, 1, none⟩)), (.int .i64 ((n : Nat) : Int)), (.bool true), (.bool true), undef, undef, (.bool true)]) 8 _ _) : a'.eval (.tmp 64) = (.bool true))) (hK _ _ (Below.refl _ _) rfl (fun b h => h.elim)))
            · obtain rfl := Option.some.inj hoj
              exact gG_off rfl ((hdep ⟨9, .guard⟩ (by simp) rfl : (KV [(.pointer (some ⟨g + 1, 0, none⟩)), (.int .i64 2), (.bool true), (.bool true), (.agg #[.int .i64 ((b : Nat) : Int), .int .i64 ((n : Nat) : Int), .slice pv m cc]), (.int .i64 ((c : Nat) : Int)), (.pointer (some ⟨g, 1, none⟩)), (.int .i64 ((n : Nat) : Int)), (.bool true), (.bool true), undef, undef, (.bool true)]) 9 _ _) : a'.eval (.tmp 65) = (.bool true)) (by decide) (hK _ _ (Below.refl _ _) rfl (fun b h => h.elim))
            · obtain rfl := Option.some.inj hoj
              exact gG_off rfl ((hdep ⟨9, .guard⟩ (by simp) rfl : (KV [(.pointer (some ⟨g + 1, 0, none⟩)), (.int .i64 2), (.bool true), (.bool true), (.agg #[.int .i64 ((b : Nat) : Int), .int .i64 ((n : Nat) : Int), .slice pv m cc]), (.int .i64 ((c : Nat) : Int)), (.pointer (some ⟨g, 1, none⟩)), (.int .i64 ((n : Nat) : Int)), (.bool true), (.bool true), undef, undef, (.bool true)]) 9 _ _) : a'.eval (.tmp 65) = (.bool true)) (by decide) (hK _ _ (Below.refl _ _) rfl (fun b h => h.elim))
            · obtain rfl := Option.some.inj hoj
              exact gG_on rfl ((hdep ⟨3, .guard⟩ (by simp) rfl : (KV [(.pointer (some ⟨g + 1, 0, none⟩)), (.int .i64 2), (.bool true), (.bool true), (.agg #[.int .i64 ((b : Nat) : Int), .int .i64 ((n : Nat) : Int), .slice pv m cc]), (.int .i64 ((c : Nat) : Int)), (.pointer (some ⟨g, 1, none⟩)), (.int .i64 ((n : Nat) : Int)), (.bool true), (.bool true), undef, undef, (.bool true)]) 3 _ _) : a'.eval (.tmp 59) = (.bool true)) (wpO_val _ (exec_pick rfl ((hdep ⟨9, .data⟩ (by simp) rfl : (KV [(.pointer (some ⟨g + 1, 0, none⟩)), (.int .i64 2), (.bool true), (.bool true), (.agg #[.int .i64 ((b : Nat) : Int), .int .i64 ((n : Nat) : Int), .slice pv m cc]), (.int .i64 ((c : Nat) : Int)), (.pointer (some ⟨g, 1, none⟩)), (.int .i64 ((n : Nat) : Int)), (.bool true), (.bool true), undef, undef, (.bool true)]) 9 _ _) : a'.eval (.tmp 65) = (.bool true)) rfl) (hK _ _ (Below.refl _ _) rfl (fun b h => h.elim)))
          intro vq w6 hb6 hD _ _
          have hv0 : vq 0 = (.pointer (some ⟨g + 1, 0, none⟩)) := hD 0 (by omega)
          have hv1 : vq 1 = (.int .i64 2) := hD 1 (by omega)
          have hv2 : vq 2 = (.bool true) := hD 2 (by omega)
          have hv3 : vq 3 = (.bool true) := hD 3 (by omega)
          have hv4 : vq 4 = (.agg #[.int .i64 ((b : Nat) : Int), .int .i64 ((n : Nat) : Int), .slice pv m cc]) := hD 4 (by omega)
          have hv5 : vq 5 = (.int .i64 ((c : Nat) : Int)) := hD 5 (by omega)
          have hv6 : vq 6 = (.pointer (some ⟨g, 1, none⟩)) := hD 6 (by omega)
          have hv7 : vq 7 = (.int .i64 ((n : Nat) : Int)) := hD 7 (by omega)
          have hv8 : vq 8 = (.bool true) := hD 8 (by omega)
          have hv9 : vq 9 = (.bool true) := hD 9 (by omega)
          have hv10 : vq 10 = undef := hD 10 (by omega)
          have hv11 : vq 11 = undef := hD 11 (by omega)
          have hv12 : vq 12 = (.bool true) := hD 12 (by omega)
          simp only [puts, Act.put, List.setIfInBounds_toArray, List.set_cons_zero, List.set_cons_succ, hv0, hv1, hv2, hv3, hv4, hv5, hv6, hv7, hv8, hv9, hv10, hv11, hv12, List.drop_succ_cons, List.drop_zero, Nat.zero_add, Nat.reduceAdd]
          have hab := HAB.out.below (hb6.mono HGS.out)
          have hbw := HBW.out.trans (hb6.mono (by have := HGS.out; omega))
          have hgs := Nat.le_trans HGS.out hb6.size
          clear HAB HBW HGS d0 d1 d2 x0 x1 x2 x3 x4 hb6 hD hv0 hv1 hv2 hv3 hv4 hv5 hv6 hv7 hv8 hv9 hv10 hv11 hv12
          generalize w6 = wq at hab hbw hgs ⊢
          have HAB := hid hab
          have HBW := hid hbw
          have HGS := hid hgs
          clear hab hbw hgs
          obtain ⟨d0, d1, d2, x0, x1, x2, x3, x4⟩ := HAB.out.cells
          have hE : EE = 9 := by rw [← HEE0.out]; simp [addE, hi1, hv1, hq2, hc, hcn]
          have HE := hid hE
          clear hE
          go_wp2_with (first
            | fail
            | (refine wpList_store_row rfl 49 (.tmp 4) (.tmp 70) rfl (g + 2) #[.int .i64 ((b : Nat) : Int), .int .i64 ((n : Nat) : Int), .slice pv m cc] rfl rfl 49 _ HAB.out.r (show (Tryz.prog.info? 49).map (·.size) = some 3 by kernel_rfl) rfl (drw_one _ _ _ _ _) ?_))
          refine bodyPost_ret (results_drw Tryz.results19 rfl rfl (setRow_at HAB.out.r)) rfl ⟨_, by rw [HE.out]; rfl, ?_⟩
          refine (fun (hB : Below W.heap.size W _) => ⟨by rw [← HLE0.out, addL, HEE0.out, HE.out, if_neg (by decide)]; exact HR.out.below hB, hB⟩) ?_
          rw [HG.out]
          exact HBW.out.trans (setRow_below (Nat.le_add_right g 2))
        | false =>
          cases ob with
          | true =>
            refine grow_regionG 13 [56, 57, 58, 59, 60, 61, 62, 63, 64, 65, 66, 67, 68] (by kernel_rfl) (by kernel_rfl) (KV [(.pointer (some ⟨g + 1, 0, none⟩)), (.int .i64 2), (.bool true), (.bool true), (.agg #[.int .i64 ((b : Nat) : Int), .int .i64 ((n : Nat) : Int), .slice pv m cc]), (.int .i64 ((c : Nat) : Int)), (.pointer (some ⟨g, 1, none⟩)), (.int .i64 ((n : Nat) : Int)), (.bool false), (.bool false), (.agg #[.int .i64 ((b : Nat) : Int), .int .i64 ((n : Nat) : Int), .slice pv m cc]), (.bool true), (.bool true)]) (fun _ _ _ => False) (fun _ _ _ _ _ h => h) (fun _ _ _ _ _ h => h.elim) ?_ ?_
            · intro jq oj hjq hoj a' w' hb' he hdep K hK
              have ca := HAB.out.below (hb'.mono HGS.out)
              have cb : Below W.heap.size W w' := HG.out.symm ▸ HBW.out.trans (hb'.mono (by have := HGS.out; omega))
              rcases (show jq = 0 ∨ jq = 1 ∨ jq = 2 ∨ jq = 3 ∨ jq = 4 ∨ jq = 5 ∨ jq = 6 ∨ jq = 7 ∨ jq = 8 ∨ jq = 9 ∨ jq = 10 ∨ jq = 11 ∨ jq = 12 by omega) with rfl | rfl | rfl | rfl | rfl | rfl | rfl | rfl | rfl | rfl | rfl | rfl | rfl
              · obtain rfl := Option.some.inj hoj
                exact gG_none rfl (wpO_val _ (exec_fldL 0 rfl ((he 3 (by decide)).trans rfl : a'.eval (.tmp 3) = (.pointer (some ⟨g + 1, 0, none⟩))) (by simp)) (hK _ _ (Below.refl _ _) rfl (fun b h => h.elim)))
              · obtain rfl := Option.some.inj hoj
                exact gG_none rfl (wpO_val _ (exec_ldcellB rfl ((hdep ⟨0, .data⟩ (by simp) rfl : (KV [(.pointer (some ⟨g + 1, 0, none⟩)), (.int .i64 2), (.bool true), (.bool true), (.agg #[.int .i64 ((b : Nat) : Int), .int .i64 ((n : Nat) : Int), .slice pv m cc]), (.int .i64 ((c : Nat) : Int)), (.pointer (some ⟨g, 1, none⟩)), (.int .i64 ((n : Nat) : Int)), (.bool false), (.bool false), (.agg #[.int .i64 ((b : Nat) : Int), .int .i64 ((n : Nat) : Int), .slice pv m cc]), (.bool true), (.bool true)]) 0 _ _) : a'.eval (.tmp 56) = (.pointer (some ⟨g + 1, 0, none⟩))) (cell_of_row _ _ 0 _ _ _ ca.x)) (hK _ _ (Below.refl _ _) rfl (fun b h => h.elim)))
              · obtain rfl := Option.some.inj hoj
                exact gG_none rfl (wpO_val _ (exec_neK rfl ((hdep ⟨1, .data⟩ (by simp) rfl : (KV [(.pointer (some ⟨g + 1, 0, none⟩)), (.int .i64 2), (.bool true), (.bool true), (.agg #[.int .i64 ((b : Nat) : Int), .int .i64 ((n : Nat) : Int), .slice pv m cc]), (.int .i64 ((c : Nat) : Int)), (.pointer (some ⟨g, 1, none⟩)), (.int .i64 ((n : Nat) : Int)), (.bool false), (.bool false), (.agg #[.int .i64 ((b : Nat) : Int), .int .i64 ((n : Nat) : Int), .slice pv m cc]), (.bool true), (.bool true)]) 1 _ _) : a'.eval (.tmp 57) = (.int .i64 2)) rfl (by decide)) (hK _ _ (Below.refl _ _) rfl (fun b h => h.elim)))
              · obtain rfl := Option.some.inj hoj
                exact gG_none rfl (wpO_val _ (exec_mv rfl ((hdep ⟨2, .data⟩ (by simp) rfl : (KV [(.pointer (some ⟨g + 1, 0, none⟩)), (.int .i64 2), (.bool true), (.bool true), (.agg #[.int .i64 ((b : Nat) : Int), .int .i64 ((n : Nat) : Int), .slice pv m cc]), (.int .i64 ((c : Nat) : Int)), (.pointer (some ⟨g, 1, none⟩)), (.int .i64 ((n : Nat) : Int)), (.bool false), (.bool false), (.agg #[.int .i64 ((b : Nat) : Int), .int .i64 ((n : Nat) : Int), .slice pv m cc]), (.bool true), (.bool true)]) 2 _ _) : a'.eval (.tmp 58) = (.bool true))) (hK _ _ (Below.refl _ _) rfl (fun b h => h.elim)))
              · obtain rfl := Option.some.inj hoj
                exact gG_on rfl ((hdep ⟨3, .guard⟩ (by simp) rfl : (KV [(.pointer (some ⟨g + 1, 0, none⟩)), (.int .i64 2), (.bool true), (.bool true), (.agg #[.int .i64 ((b : Nat) : Int), .int .i64 ((n : Nat) : Int), .slice pv m cc]), (.int .i64 ((c : Nat) : Int)), (.pointer (some ⟨g, 1, none⟩)), (.int .i64 ((n : Nat) : Int)), (.bool false), (.bool false), (.agg #[.int .i64 ((b : Nat) : Int), .int .i64 ((n : Nat) : Int), .slice pv m cc]), (.bool true), (.bool true)]) 3 _ _) : a'.eval (.tmp 59) = (.bool true)) (wpO_val _ (exec_ldDr rfl ((he 2 (by decide)).trans rfl : a'.eval (.tmp 2) = (.pointer (some ⟨g, 0, none⟩))) ca.d) (hK _ _ (Below.refl _ _) rfl (fun b h => h.elim)))
              · obtain rfl := Option.some.inj hoj
                exact gG_on rfl ((hdep ⟨3, .guard⟩ (by simp) rfl : (KV [(.pointer (some ⟨g + 1, 0, none⟩)), (.int .i64 2), (.bool true), (.bool true), (.agg #[.int .i64 ((b : Nat) : Int), .int .i64 ((n : Nat) : Int), .slice pv m cc]), (.int .i64 ((c : Nat) : Int)), (.pointer (some ⟨g, 1, none⟩)), (.int .i64 ((n : Nat) : Int)), (.bool false), (.bool false), (.agg #[.int .i64 ((b : Nat) : Int), .int .i64 ((n : Nat) : Int), .slice pv m cc]), (.bool true), (.bool true)]) 3 _ _) : a'.eval (.tmp 59) = (.bool true)) (wpO_call _ _ (exec_call2 rfl rfl ((hdep ⟨4, .data⟩ (by simp) rfl : (KV [(.pointer (some ⟨g + 1, 0, none⟩)), (.int .i64 2), (.bool true), (.bool true), (.agg #[.int .i64 ((b : Nat) : Int), .int .i64 ((n : Nat) : Int), .slice pv m cc]), (.int .i64 ((c : Nat) : Int)), (.pointer (some ⟨g, 1, none⟩)), (.int .i64 ((n : Nat) : Int)), (.bool false), (.bool false), (.agg #[.int .i64 ((b : Nat) : Int), .int .i64 ((n : Nat) : Int), .slice pv m cc]), (.bool true), (.bool true)]) 4 _ _) : a'.eval (.tmp 60) = (.agg #[.int .i64 ((b : Nat) : Int), .int .i64 ((n : Nat) : Int), .slice pv m cc])) rfl (by go_simp)) ((HCT.out w' cb).mono fun e w'' ⟨h1, h2⟩ => ⟨_, h1, hK _ w'' h2 rfl (fun b h => h.elim)⟩))
              · obtain rfl := Option.some.inj hoj
                exact gG_on rfl ((hdep ⟨3, .guard⟩ (by simp) rfl : (KV [(.pointer (some ⟨g + 1, 0, none⟩)), (.int .i64 2), (.bool true), (.bool true), (.agg #[.int .i64 ((b : Nat) : Int), .int .i64 ((n : Nat) : Int), .slice pv m cc]), (.int .i64 ((c : Nat) : Int)), (.pointer (some ⟨g, 1, none⟩)), (.int .i64 ((n : Nat) : Int)), (.bool false), (.bool false), (.agg #[.int .i64 ((b : Nat) : Int), .int .i64 ((n : Nat) : Int), .slice pv m cc]), (.bool true), (.bool true)]) 3 _ _) : a'.eval (.tmp 59) = (.bool true)) (wpO_val _ (exec_fldDr 1 rfl ((he 2 (by decide)).trans rfl : a'.eval (.tmp 2) = (.pointer (some ⟨g, 0, none⟩))) (by simp)) (hK _ _ (Below.refl _ _) rfl (fun b h => h.elim)))
              · obtain rfl := Option.some.inj hoj
                exact gG_on rfl ((hdep ⟨3, .guard⟩ (by simp) rfl : (KV [(.pointer (some ⟨g + 1, 0, none⟩)), (.int .i64 2), (.bool true), (.bool true), (.agg #[.int .i64 ((b : Nat) : Int), .int .i64 ((n : Nat) : Int), .slice pv m cc]), (.int .i64 ((c : Nat) : Int)), (.pointer (some ⟨g, 1, none⟩)), (.int .i64 ((n : Nat) : Int)), (.bool false), (.bool false), (.agg #[.int .i64 ((b : Nat) : Int), .int .i64 ((n : Nat) : Int), .slice pv m cc]), (.bool true), (.bool true)]) 3 _ _) : a'.eval (.tmp 59) = (.bool true)) (wpO_val _ (exec_ldcellB rfl ((hdep ⟨6, .data⟩ (by simp) rfl : (KV [(.pointer (some ⟨g + 1, 0, none⟩)), (.int .i64 2), (.bool true), (.bool true), (.agg #[.int .i64 ((b : Nat) : Int), .int .i64 ((n : Nat) : Int), .slice pv m cc]), (.int .i64 ((c : Nat) : Int)), (.pointer (some ⟨g, 1, none⟩)), (.int .i64 ((n : Nat) : Int)), (.bool false), (.bool false), (.agg #[.int .i64 ((b : Nat) : Int), .int .i64 ((n : Nat) : Int), .slice pv m cc]), (.bool true), (.bool true)]) 6 _ _) : a'.eval (.tmp 62) = (.pointer (some ⟨g, 1, none⟩))) (cell_of_row _ _ 1 _ _ _ ca.d)) (hK _ _ (Below.refl _ _) rfl (fun b h => h.elim)))
              · obtain rfl := Option.some.inj hoj
                exact gG_on rfl ((hdep ⟨3, .guard⟩ (by simp) rfl : (KV [(.pointer (some ⟨g + 1, 0, none⟩)), (.int .i64 2), (.bool true), (.bool true), (.agg #[.int .i64 ((b : Nat) : Int), .int .i64 ((n : Nat) : Int), .slice pv m cc]), (.int .i64 ((c : Nat) : Int)), (.pointer (some ⟨g, 1, none⟩)), (.int .i64 ((n : Nat) : Int)), (.bool false), (.bool false), (.agg #[.int .i64 ((b : Nat) : Int), .int .i64 ((n : Nat) : Int), .slice pv m cc]), (.bool true), (.bool true)]) 3 _ _) : a'.eval (.tmp 59) = (.bool true)) (wpO_val _ (exec_lsN rfl ((hdep ⟨5, .data⟩ (by simp) rfl : (KV [(.pointer (some ⟨g + 1, 0, none⟩)), (.int .i64 2), (.bool true), (.bool true), (.agg #[.int .i64 ((b : Nat) : Int), .int .i64 ((n : Nat) : Int), .slice pv m cc]), (.int .i64 ((c : Nat) : Int)), (.pointer (some ⟨g, 1, none⟩)), (.int .i64 ((n : Nat) : Int)), (.bool false), (.bool false), (.agg #[.int .i64 ((b : Nat) : Int), .int .i64 ((n : Nat) : Int), .slice pv m cc]), (.bool true), (.bool true)]) 5 _ _) : a'.eval (.tmp 61) = (.int .i64 ((c : Nat) : Int))) ((hdep ⟨7, .data⟩ (by simp) rfl : (KV [(.pointer (some ⟨g + 1, 0, none⟩)), (.int .i64 2), (.bool true), (.bool true), (.agg #[.int .i64 ((b : Nat) : Int), .int .i64 ((n : Nat) : Int), .slice pv m cc]), (.int .i64 ((c : Nat) : Int)), (.pointer (some ⟨g, 1, none⟩)), (.int .i64 ((n : Nat) : Int)), (.bool false), (.bool false), (.agg #[.int .i64 ((b : Nat) : Int), .int .i64 ((n : Nat) : Int), .slice pv m cc]), (.bool true), (.bool true)]) 7 _ _) : a'.eval (.tmp 63) = (.int .i64 ((n : Nat) : Int))) hcn) (hK _ _ (Below.refl _ _) rfl (fun b h => h.elim)))
              · obtain rfl := Option.some.inj hoj
                exact gG_on rfl ((hdep ⟨3, .guard⟩ (by simp) rfl : (KV [(.pointer (some ⟨g + 1, 0, none⟩)), (.int .i64 2), (.bool true), (.bool true), (.agg #[.int .i64 ((b : Nat) : Int), .int .i64 ((n : Nat) : Int), .slice pv m cc]), (.int .i64 ((c : Nat) : Int)), (.pointer (some ⟨g, 1, none⟩)), (.int .i64 ((n : Nat) : Int)), (.bool false), (.bool false), (.agg #[.int .i64 ((b : Nat) : Int), .int .i64 ((n : Nat) : Int), .slice pv m cc]), (.bool true), (.bool true)]) 3 _ _) : a'.eval (.tmp 59) = (.bool true)) (wpO_val _ (exec_mv rfl ((hdep ⟨8, .data⟩ (by simp) rfl : (KV [(.pointer (some ⟨g + 1, 0, none⟩)), (.int .i64 2), (.bool true), (.bool true), (.agg #[.int .i64 ((b : Nat) : Int), .int .i64 ((n : Nat) : Int), .slice pv m cc]), (.int .i64 ((c : Nat) : Int)), (.pointer (some ⟨g, 1, none⟩)), (.int .i64 ((n : Nat) : Int)), (.bool false), (.bool false), (.agg #[.int .i64 ((b : Nat) : Int), .int .i64 ((n : Nat) : Int), .slice pv m cc]), (.bool true), (.bool true)]) 8 _ _) : a'.eval (.tmp 64) = (.bool false))) (hK _ _ (Below.refl _ _) rfl (fun b h => h.elim)))
              · obtain rfl := Option.some.inj hoj
                exact gG_on rfl ((hdep ⟨9, .guard⟩ (by simp) rfl : (KV [(.pointer (some ⟨g + 1, 0, none⟩)), (.int .i64 2), (.bool true), (.bool true), (.agg #[.int .i64 ((b : Nat) : Int), .int .i64 ((n : Nat) : Int), .slice pv m cc]), (.int .i64 ((c : Nat) : Int)), (.pointer (some ⟨g, 1, none⟩)), (.int .i64 ((n : Nat) : Int)), (.bool false), (.bool false), (.agg #[.int .i64 ((b : Nat) : Int), .int .i64 ((n : Nat) : Int), .slice pv m cc]), (.bool true), (.bool true)]) 9 _ _) : a'.eval (.tmp 65) = (.bool false)) (wpO_val _ (exec_ldDr rfl ((he 2 (by decide)).trans rfl : a'.eval (.tmp 2) = (.pointer (some ⟨g, 0, none⟩))) ca.d) (hK _ _ (Below.refl _ _) rfl (fun b h => h.elim)))
              · obtain rfl := Option.some.inj hoj
                exact gG_on rfl ((hdep ⟨9, .guard⟩ (by simp) rfl : (KV [(.pointer (some ⟨g + 1, 0, none⟩)), (.int .i64 2), (.bool true), (.bool true), (.agg #[.int .i64 ((b : Nat) : Int), .int .i64 ((n : Nat) : Int), .slice pv m cc]), (.int .i64 ((c : Nat) : Int)), (.pointer (some ⟨g, 1, none⟩)), (.int .i64 ((n : Nat) : Int)), (.bool false), (.bool false), (.agg #[.int .i64 ((b : Nat) : Int), .int .i64 ((n : Nat) : Int), .slice pv m cc]), (.bool true), (.bool true)]) 9 _ _) : a'.eval (.tmp 65) = (.bool false)) (wpO_call _ _ (exec_call1 rfl rfl ((hdep ⟨10, .data⟩ (by simp) rfl : (KV [(.pointer (some ⟨g + 1, 0, none⟩)), (.int .i64 2), (.bool true), (.bool true), (.agg #[.int .i64 ((b : Nat) : Int), .int .i64 ((n : Nat) : Int), .slice pv m cc]), (.int .i64 ((c : Nat) : Int)), (.pointer (some ⟨g, 1, none⟩)), (.int .i64 ((n : Nat) : Int)), (.bool false), (.bool false), (.agg #[.int .i64 ((b : Nat) : Int), .int .i64 ((n : Nat) : Int), .slice pv m cc]), (.bool true), (.bool true)]) 10 _ _) : a'.eval (.tmp 66) = (.agg #[.int .i64 ((b : Nat) : Int), .int .i64 ((n : Nat) : Int), .slice pv m cc])) (by go_simp)) ((HOV.out w' cb).mono fun e w'' ⟨h1, h2⟩ => ⟨_, h1, hK _ w'' h2 rfl (fun b h => h.elim)⟩))
              · obtain rfl := Option.some.inj hoj
                exact gG_on rfl ((hdep ⟨3, .guard⟩ (by simp) rfl : (KV [(.pointer (some ⟨g + 1, 0, none⟩)), (.int .i64 2), (.bool true), (.bool true), (.agg #[.int .i64 ((b : Nat) : Int), .int .i64 ((n : Nat) : Int), .slice pv m cc]), (.int .i64 ((c : Nat) : Int)), (.pointer (some ⟨g, 1, none⟩)), (.int .i64 ((n : Nat) : Int)), (.bool false), (.bool false), (.agg #[.int .i64 ((b : Nat) : Int), .int .i64 ((n : Nat) : Int), .slice pv m cc]), (.bool true), (.bool true)]) 3 _ _) : a'.eval (.tmp 59) = (.bool true)) (wpO_val _ (exec_pick rfl ((hdep ⟨9, .data⟩ (by simp) rfl : (KV [(.pointer (some ⟨g + 1, 0, none⟩)), (.int .i64 2), (.bool true), (.bool true), (.agg #[.int .i64 ((b : Nat) : Int), .int .i64 ((n : Nat) : Int), .slice pv m cc]), (.int .i64 ((c : Nat) : Int)), (.pointer (some ⟨g, 1, none⟩)), (.int .i64 ((n : Nat) : Int)), (.bool false), (.bool false), (.agg #[.int .i64 ((b : Nat) : Int), .int .i64 ((n : Nat) : Int), .slice pv m cc]), (.bool true), (.bool true)]) 9 _ _) : a'.eval (.tmp 65) = (.bool false)) (((hdep ⟨11, .data⟩ (by simp) rfl : (KV [(.pointer (some ⟨g + 1, 0, none⟩)), (.int .i64 2), (.bool true), (.bool true), (.agg #[.int .i64 ((b : Nat) : Int), .int .i64 ((n : Nat) : Int), .slice pv m cc]), (.int .i64 ((c : Nat) : Int)), (.pointer (some ⟨g, 1, none⟩)), (.int .i64 ((n : Nat) : Int)), (.bool false), (.bool false), (.agg #[.int .i64 ((b : Nat) : Int), .int .i64 ((n : Nat) : Int), .slice pv m cc]), (.bool true), (.bool true)]) 11 _ _) : a'.eval (.tmp 67) = (.bool true)))) (hK _ _ (Below.refl _ _) rfl (fun b h => h.elim)))
            intro vq w6 hb6 hD _ _
            have hv0 : vq 0 = (.pointer (some ⟨g + 1, 0, none⟩)) := hD 0 (by omega)
            have hv1 : vq 1 = (.int .i64 2) := hD 1 (by omega)
            have hv2 : vq 2 = (.bool true) := hD 2 (by omega)
            have hv3 : vq 3 = (.bool true) := hD 3 (by omega)
            have hv4 : vq 4 = (.agg #[.int .i64 ((b : Nat) : Int), .int .i64 ((n : Nat) : Int), .slice pv m cc]) := hD 4 (by omega)
            have hv5 : vq 5 = (.int .i64 ((c : Nat) : Int)) := hD 5 (by omega)
            have hv6 : vq 6 = (.pointer (some ⟨g, 1, none⟩)) := hD 6 (by omega)
            have hv7 : vq 7 = (.int .i64 ((n : Nat) : Int)) := hD 7 (by omega)
            have hv8 : vq 8 = (.bool false) := hD 8 (by omega)
            have hv9 : vq 9 = (.bool false) := hD 9 (by omega)
            have hv10 : vq 10 = (.agg #[.int .i64 ((b : Nat) : Int), .int .i64 ((n : Nat) : Int), .slice pv m cc]) := hD 10 (by omega)
            have hv11 : vq 11 = (.bool true) := hD 11 (by omega)
            have hv12 : vq 12 = (.bool true) := hD 12 (by omega)
            simp only [puts, Act.put, List.setIfInBounds_toArray, List.set_cons_zero, List.set_cons_succ, hv0, hv1, hv2, hv3, hv4, hv5, hv6, hv7, hv8, hv9, hv10, hv11, hv12, List.drop_succ_cons, List.drop_zero, Nat.zero_add, Nat.reduceAdd]
            have hab := HAB.out.below (hb6.mono HGS.out)
            have hbw := HBW.out.trans (hb6.mono (by have := HGS.out; omega))
            have hgs := Nat.le_trans HGS.out hb6.size
            clear HAB HBW HGS d0 d1 d2 x0 x1 x2 x3 x4 hb6 hD hv0 hv1 hv2 hv3 hv4 hv5 hv6 hv7 hv8 hv9 hv10 hv11 hv12
            generalize w6 = wq at hab hbw hgs ⊢
            have HAB := hid hab
            have HBW := hid hbw
            have HGS := hid hgs
            clear hab hbw hgs
            obtain ⟨d0, d1, d2, x0, x1, x2, x3, x4⟩ := HAB.out.cells
            have hE : EE = 9 := by rw [← HEE0.out]; simp [addE, hi1, hv1, hq2, hc, hcn, hob]
            have HE := hid hE
            clear hE
            go_wp2_with (first
              | fail
              | (refine wpList_store_row rfl 49 (.tmp 4) (.tmp 70) rfl (g + 2) #[.int .i64 ((b : Nat) : Int), .int .i64 ((n : Nat) : Int), .slice pv m cc] rfl rfl 49 _ HAB.out.r (show (Tryz.prog.info? 49).map (·.size) = some 3 by kernel_rfl) rfl (drw_one _ _ _ _ _) ?_))
            refine bodyPost_ret (results_drw Tryz.results19 rfl rfl (setRow_at HAB.out.r)) rfl ⟨_, by rw [HE.out]; rfl, ?_⟩
            refine (fun (hB : Below W.heap.size W _) => ⟨by rw [← HLE0.out, addL, HEE0.out, HE.out, if_neg (by decide)]; exact HR.out.below hB, hB⟩) ?_
            rw [HG.out]
            exact HBW.out.trans (setRow_below (Nat.le_add_right g 2))
          | false =>
            refine grow_regionG 13 [56, 57, 58, 59, 60, 61, 62, 63, 64, 65, 66, 67, 68] (by kernel_rfl) (by kernel_rfl) (KV [(.pointer (some ⟨g + 1, 0, none⟩)), (.int .i64 2), (.bool true), (.bool true), (.agg #[.int .i64 ((b : Nat) : Int), .int .i64 ((n : Nat) : Int), .slice pv m cc]), (.int .i64 ((c : Nat) : Int)), (.pointer (some ⟨g, 1, none⟩)), (.int .i64 ((n : Nat) : Int)), (.bool false), (.bool false), (.agg #[.int .i64 ((b : Nat) : Int), .int .i64 ((n : Nat) : Int), .slice pv m cc]), (.bool false), (.bool false)]) (fun _ _ _ => False) (fun _ _ _ _ _ h => h) (fun _ _ _ _ _ h => h.elim) ?_ ?_
            · intro jq oj hjq hoj a' w' hb' he hdep K hK
              have ca := HAB.out.below (hb'.mono HGS.out)
              have cb : Below W.heap.size W w' := HG.out.symm ▸ HBW.out.trans (hb'.mono (by have := HGS.out; omega))
              rcases (show jq = 0 ∨ jq = 1 ∨ jq = 2 ∨ jq = 3 ∨ jq = 4 ∨ jq = 5 ∨ jq = 6 ∨ jq = 7 ∨ jq = 8 ∨ jq = 9 ∨ jq = 10 ∨ jq = 11 ∨ jq = 12 by omega) with rfl | rfl | rfl | rfl | rfl | rfl | rfl | rfl | rfl | rfl | rfl | rfl | rfl
              · obtain rfl := Option.some.inj hoj
                exact gG_none rfl (wpO_val _ (exec_fldL 0 rfl ((he 3 (by decide)).trans rfl : a'.eval (.tmp 3) = (.pointer (some ⟨g + 1, 0, none⟩))) (by simp)) (hK _ _ (Below.refl _ _) rfl (fun b h => h.elim)))
              · obtain rfl := Option.some.inj hoj
                exact gG_none rfl (wpO_val _ (exec_ldcellB rfl ((hdep ⟨0, .data⟩ (by simp) rfl : (KV [(.pointer (some ⟨g + 1, 0, none⟩)), (.int .i64 2), (.bool true), (.bool true), (.agg #[.int .i64 ((b : Nat) : Int), .int .i64 ((n : Nat) : Int), .slice pv m cc]), (.int .i64 ((c : Nat) : Int)), (.pointer (some ⟨g, 1, none⟩)), (.int .i64 ((n : Nat) : Int)), (.bool false), (.bool false), (.agg #[.int .i64 ((b : Nat) : Int), .int .i64 ((n : Nat) : Int), .slice pv m cc]), (.bool false), (.bool false)]) 0 _ _) : a'.eval (.tmp 56) = (.pointer (some ⟨g + 1, 0, none⟩))) (cell_of_row _ _ 0 _ _ _ ca.x)) (hK _ _ (Below.refl _ _) rfl (fun b h => h.elim)))
              · obtain rfl := Option.some.inj hoj
                exact gG_none rfl (wpO_val _ (exec_neK rfl ((hdep ⟨1, .data⟩ (by simp) rfl : (KV [(.pointer (some ⟨g + 1, 0, none⟩)), (.int .i64 2), (.bool true), (.bool true), (.agg #[.int .i64 ((b : Nat) : Int), .int .i64 ((n : Nat) : Int), .slice pv m cc]), (.int .i64 ((c : Nat) : Int)), (.pointer (some ⟨g, 1, none⟩)), (.int .i64 ((n : Nat) : Int)), (.bool false), (.bool false), (.agg #[.int .i64 ((b : Nat) : Int), .int .i64 ((n : Nat) : Int), .slice pv m cc]), (.bool false), (.bool false)]) 1 _ _) : a'.eval (.tmp 57) = (.int .i64 2)) rfl (by decide)) (hK _ _ (Below.refl _ _) rfl (fun b h => h.elim)))
              · obtain rfl := Option.some.inj hoj
                exact gG_none rfl (wpO_val _ (exec_mv rfl ((hdep ⟨2, .data⟩ (by simp) rfl : (KV [(.pointer (some ⟨g + 1, 0, none⟩)), (.int .i64 2), (.bool true), (.bool true), (.agg #[.int .i64 ((b : Nat) : Int), .int .i64 ((n : Nat) : Int), .slice pv m cc]), (.int .i64 ((c : Nat) : Int)), (.pointer (some ⟨g, 1, none⟩)), (.int .i64 ((n : Nat) : Int)), (.bool false), (.bool false), (.agg #[.int .i64 ((b : Nat) : Int), .int .i64 ((n : Nat) : Int), .slice pv m cc]), (.bool false), (.bool false)]) 2 _ _) : a'.eval (.tmp 58) = (.bool true))) (hK _ _ (Below.refl _ _) rfl (fun b h => h.elim)))
              · obtain rfl := Option.some.inj hoj
                exact gG_on rfl ((hdep ⟨3, .guard⟩ (by simp) rfl : (KV [(.pointer (some ⟨g + 1, 0, none⟩)), (.int .i64 2), (.bool true), (.bool true), (.agg #[.int .i64 ((b : Nat) : Int), .int .i64 ((n : Nat) : Int), .slice pv m cc]), (.int .i64 ((c : Nat) : Int)), (.pointer (some ⟨g, 1, none⟩)), (.int .i64 ((n : Nat) : Int)), (.bool false), (.bool false), (.agg #[.int .i64 ((b : Nat) : Int), .int .i64 ((n : Nat) : Int), .slice pv m cc]), (.bool false), (.bool false)]) 3 _ _) : a'.eval (.tmp 59) = (.bool true)) (wpO_val _ (exec_ldDr rfl ((he 2 (by decide)).trans rfl : a'.eval (.tmp 2) = (.pointer (some ⟨g, 0, none⟩))) ca.d) (hK _ _ (Below.refl _ _) rfl (fun b h => h.elim)))
              · obtain rfl := Option.some.inj hoj
                exact gG_on rfl ((hdep ⟨3, .guard⟩ (by simp) rfl : (KV [(.pointer (some ⟨g + 1, 0, none⟩)), (.int .i64 2), (.bool true), (.bool true), (.agg #[.int .i64 ((b : Nat) : Int), .int .i64 ((n : Nat) : Int), .slice pv m cc]), (.int .i64 ((c : Nat) : Int)), (.pointer (some ⟨g, 1, none⟩)), (.int .i64 ((n : Nat) : Int)), (.bool false), (.bool false), (.agg #[.int .i64 ((b : Nat) : Int), .int .i64 ((n : Nat) : Int), .slice pv m cc]), (.bool false), (.bool false)]) 3 _ _) : a'.eval (.tmp 59) = (.bool true)) (wpO_call _ _ (exec_call2 rfl rfl ((hdep ⟨4, .data⟩ (by simp) rfl : (KV [(.pointer (some ⟨g + 1, 0, none⟩)), (.int .i64 2), (.bool true), (.bool true), (.agg #[.int .i64 ((b : Nat) : Int), .int .i64 ((n : Nat) : Int), .slice pv m cc]), (.int .i64 ((c : Nat) : Int)), (.pointer (some ⟨g, 1, none⟩)), (.int .i64 ((n : Nat) : Int)), (.bool false), (.bool false), (.agg #[.int .i64 ((b : Nat) : Int), .int .i64 ((n : Nat) : Int), .slice pv m cc]), (.bool false), (.bool false)]) 4 _ _) : a'.eval (.tmp 60) = (.agg #[.int .i64 ((b : Nat) : Int), .int .i64 ((n : Nat) : Int), .slice pv m cc])) rfl (by go_simp)) ((HCT.out w' cb).mono fun e w'' ⟨h1, h2⟩ => ⟨_, h1, hK _ w'' h2 rfl (fun b h => h.elim)⟩))
              · obtain rfl := Option.some.inj hoj
                exact gG_on rfl ((hdep ⟨3, .guard⟩ (by simp) rfl : (KV [(.pointer (some ⟨g + 1, 0, none⟩)), (.int .i64 2), (.bool true), (.bool true), (.agg #[.int .i64 ((b : Nat) : Int), .int .i64 ((n : Nat) : Int), .slice pv m cc]), (.int .i64 ((c : Nat) : Int)), (.pointer (some ⟨g, 1, none⟩)), (.int .i64 ((n : Nat) : Int)), (.bool false), (.bool false), (.agg #[.int .i64 ((b : Nat) : Int), .int .i64 ((n : Nat) : Int), .slice pv m cc]), (.bool false), (.bool false)]) 3 _ _) : a'.eval (.tmp 59) = (.bool true)) (wpO_val _ (exec_fldDr 1 rfl ((he 2 (by decide)).trans rfl : a'.eval (.tmp 2) = (.pointer (some ⟨g, 0, none⟩))) (by simp)) (hK _ _ (Below.refl _ _) rfl (fun b h => h.elim)))
              · obtain rfl := Option.some.inj hoj
                exact gG_on rfl ((hdep ⟨3, .guard⟩ (by simp) rfl : (KV [(.pointer (some ⟨g + 1, 0, none⟩)), (.int .i64 2), (.bool true), (.bool true), (.agg #[.int .i64 ((b : Nat) : Int), .int .i64 ((n : Nat) : Int), .slice pv m cc]), (.int .i64 ((c : Nat) : Int)), (.pointer (some ⟨g, 1, none⟩)), (.int .i64 ((n : Nat) : Int)), (.bool false), (.bool false), (.agg #[.int .i64 ((b : Nat) : Int), .int .i64 ((n : Nat) : Int), .slice pv m cc]), (.bool false), (.bool false)]) 3 _ _) : a'.eval (.tmp 59) = (.bool true)) (wpO_val _ (exec_ldcellB rfl ((hdep ⟨6, .data⟩ (by simp) rfl : (KV [(.pointer (some ⟨g + 1, 0, none⟩)), (.int .i64 2), (.bool true), (.bool true), (.agg #[.int .i64 ((b : Nat) : Int), .int .i64 ((n : Nat) : Int), .slice pv m cc]), (.int .i64 ((c : Nat) : Int)), (.pointer (some ⟨g, 1, none⟩)), (.int .i64 ((n : Nat) : Int)), (.bool false), (.bool false), (.agg #[.int .i64 ((b : Nat) : Int), .int .i64 ((n : Nat) : Int), .slice pv m cc]), (.bool false), (.bool false)]) 6 _ _) : a'.eval (.tmp 62) = (.pointer (some ⟨g, 1, none⟩))) (cell_of_row _ _ 1 _ _ _ ca.d)) (hK _ _ (Below.refl _ _) rfl (fun b h => h.elim)))
              · obtain rfl := Option.some.inj hoj
                exact gG_on rfl ((hdep ⟨3, .guard⟩ (by simp) rfl : (KV [(.pointer (some ⟨g + 1, 0, none⟩)), (.int .i64 2), (.bool true), (.bool true), (.agg #[.int .i64 ((b : Nat) : Int), .int .i64 ((n : Nat) : Int), .slice pv m cc]), (.int .i64 ((c : Nat) : Int)), (.pointer (some ⟨g, 1, none⟩)), (.int .i64 ((n : Nat) : Int)), (.bool false), (.bool false), (.agg #[.int .i64 ((b : Nat) : Int), .int .i64 ((n : Nat) : Int), .slice pv m cc]), (.bool false), (.bool false)]) 3 _ _) : a'.eval (.tmp 59) = (.bool true)) (wpO_val _ (exec_lsN rfl ((hdep ⟨5, .data⟩ (by simp) rfl : (KV [(.pointer (some ⟨g + 1, 0, none⟩)), (.int .i64 2), (.bool true), (.bool true), (.agg #[.int .i64 ((b : Nat) : Int), .int .i64 ((n : Nat) : Int), .slice pv m cc]), (.int .i64 ((c : Nat) : Int)), (.pointer (some ⟨g, 1, none⟩)), (.int .i64 ((n : Nat) : Int)), (.bool false), (.bool false), (.agg #[.int .i64 ((b : Nat) : Int), .int .i64 ((n : Nat) : Int), .slice pv m cc]), (.bool false), (.bool false)]) 5 _ _) : a'.eval (.tmp 61) = (.int .i64 ((c : Nat) : Int))) ((hdep ⟨7, .data⟩ (by simp) rfl : (KV [(.pointer (some ⟨g + 1, 0, none⟩)), (.int .i64 2), (.bool true), (.bool true), (.agg #[.int .i64 ((b : Nat) : Int), .int .i64 ((n : Nat) : Int), .slice pv m cc]), (.int .i64 ((c : Nat) : Int)), (.pointer (some ⟨g, 1, none⟩)), (.int .i64 ((n : Nat) : Int)), (.bool false), (.bool false), (.agg #[.int .i64 ((b : Nat) : Int), .int .i64 ((n : Nat) : Int), .slice pv m cc]), (.bool false), (.bool false)]) 7 _ _) : a'.eval (.tmp 63) = (.int .i64 ((n : Nat) : Int))) hcn) (hK _ _ (Below.refl _ _) rfl (fun b h => h.elim)))
              · obtain rfl := Option.some.inj hoj
                exact gG_on rfl ((hdep ⟨3, .guard⟩ (by simp) rfl : (KV [(.pointer (some ⟨g + 1, 0, none⟩)), (.int .i64 2), (.bool true), (.bool true), (.agg #[.int .i64 ((b : Nat) : Int), .int .i64 ((n : Nat) : Int), .slice pv m cc]), (.int .i64 ((c : Nat) : Int)), (.pointer (some ⟨g, 1, none⟩)), (.int .i64 ((n : Nat) : Int)), (.bool false), (.bool false), (.agg #[.int .i64 ((b : Nat) : Int), .int .i64 ((n : Nat) : Int), .slice pv m cc]), (.bool false), (.bool false)]) 3 _ _) : a'.eval (.tmp 59) = (.bool true)) (wpO_val _ (exec_mv rfl ((hdep ⟨8, .data⟩ (by simp) rfl : (KV [(.pointer (some ⟨g + 1, 0, none⟩)), (.int .i64 2), (.bool true), (.bool true), (.agg #[.int .i64 ((b : Nat) : Int), .int .i64 ((n : Nat) : Int), .slice pv m cc]), (.int .i64 ((c : Nat) : Int)), (.pointer (some ⟨g, 1, none⟩)), (.int .i64 ((n : Nat) : Int)), (.bool false), (.bool false), (.agg #[.int .i64 ((b : Nat) : Int), .int .i64 ((n : Nat) : Int), .slice pv m cc]), (.bool false), (.bool false)]) 8 _ _) : a'.eval (.tmp 64) = (.bool false))) (hK _ _ (Below.refl _ _) rfl (fun b h => h.elim)))
              · obtain rfl := Option.some.inj hoj
                exact gG_on rfl ((hdep ⟨9, .guard⟩ (by simp) rfl : (KV [(.pointer (some ⟨g + 1, 0, none⟩)), (.int .i64 2), (.bool true), (.bool true), (.agg #[.int .i64 ((b : Nat) : Int), .int .i64 ((n : Nat) : Int), .slice pv m cc]), (.int .i64 ((c : Nat) : Int)), (.pointer (some ⟨g, 1, none⟩)), (.int .i64 ((n : Nat) : Int)), (.bool false), (.bool false), (.agg #[.int .i64 ((b : Nat) : Int), .int .i64 ((n : Nat) : Int), .slice pv m cc]), (.bool false), (.bool false)]) 9 _ _) : a'.eval (.tmp 65) = (.bool false)) (wpO_val _ (exec_ldDr rfl ((he 2 (by decide)).trans rfl : a'.eval (.tmp 2) = (.pointer (some ⟨g, 0, none⟩))) ca.d) (hK _ _ (Below.refl _ _) rfl (fun b h => h.elim)))
              · obtain rfl := Option.some.inj hoj
                exact gG_on rfl ((hdep ⟨9, .guard⟩ (by simp) rfl : (KV [(.pointer (some ⟨g + 1, 0, none⟩)), (.int .i64 2), (.bool true), (.bool true), (.agg #[.int .i64 ((b : Nat) : Int), .int .i64 ((n : Nat) : Int), .slice pv m cc]), (.int .i64 ((c : Nat) : Int)), (.pointer (some ⟨g, 1, none⟩)), (.int .i64 ((n : Nat) : Int)), (.bool false), (.bool false), (.agg #[.int .i64 ((b : Nat) : Int), .int .i64 ((n : Nat) : Int), .slice pv m cc]), (.bool false), (.bool false)]) 9 _ _) : a'.eval (.tmp 65) = (.bool false)) (wpO_call _ _ (exec_call1 rfl rfl ((hdep ⟨10, .data⟩ (by simp) rfl : (KV [(.pointer (some ⟨g + 1, 0, none⟩)), (.int .i64 2), (.bool true), (.bool true), (.agg #[.int .i64 ((b : Nat) : Int), .int .i64 ((n : Nat) : Int), .slice pv m cc]), (.int .i64 ((c : Nat) : Int)), (.pointer (some ⟨g, 1, none⟩)), (.int .i64 ((n : Nat) : Int)), (.bool false), (.bool false), (.agg #[.int .i64 ((b : Nat) : Int), .int .i64 ((n : Nat) : Int), .slice pv m cc]), (.bool false), (.bool false)]) 10 _ _) : a'.eval (.tmp 66) = (.agg #[.int .i64 ((b : Nat) : Int), .int .i64 ((n : Nat) : Int), .slice pv m cc])) (by go_simp)) ((HOV.out w' cb).mono fun e w'' ⟨h1, h2⟩ => ⟨_, h1, hK _ w'' h2 rfl (fun b h => h.elim)⟩))
              · obtain rfl := Option.some.inj hoj
                exact gG_on rfl ((hdep ⟨3, .guard⟩ (by simp) rfl : (KV [(.pointer (some ⟨g + 1, 0, none⟩)), (.int .i64 2), (.bool true), (.bool true), (.agg #[.int .i64 ((b : Nat) : Int), .int .i64 ((n : Nat) : Int), .slice pv m cc]), (.int .i64 ((c : Nat) : Int)), (.pointer (some ⟨g, 1, none⟩)), (.int .i64 ((n : Nat) : Int)), (.bool false), (.bool false), (.agg #[.int .i64 ((b : Nat) : Int), .int .i64 ((n : Nat) : Int), .slice pv m cc]), (.bool false), (.bool false)]) 3 _ _) : a'.eval (.tmp 59) = (.bool true)) (wpO_val _ (exec_pick rfl ((hdep ⟨9, .data⟩ (by simp) rfl : (KV [(.pointer (some ⟨g + 1, 0, none⟩)), (.int .i64 2), (.bool true), (.bool true), (.agg #[.int .i64 ((b : Nat) : Int), .int .i64 ((n : Nat) : Int), .slice pv m cc]), (.int .i64 ((c : Nat) : Int)), (.pointer (some ⟨g, 1, none⟩)), (.int .i64 ((n : Nat) : Int)), (.bool false), (.bool false), (.agg #[.int .i64 ((b : Nat) : Int), .int .i64 ((n : Nat) : Int), .slice pv m cc]), (.bool false), (.bool false)]) 9 _ _) : a'.eval (.tmp 65) = (.bool false)) (((hdep ⟨11, .data⟩ (by simp) rfl : (KV [(.pointer (some ⟨g + 1, 0, none⟩)), (.int .i64 2), (.bool true), (.bool true), (.agg #[.int .i64 ((b : Nat) : Int), .int .i64 ((n : Nat) : Int), .slice pv m cc]), (.int .i64 ((c : Nat) : Int)), (.pointer (some ⟨g, 1, none⟩)), (.int .i64 ((n : Nat) : Int)), (.bool false), (.bool false), (.agg #[.int .i64 ((b : Nat) : Int), .int .i64 ((n : Nat) : Int), .slice pv m cc]), (.bool false), (.bool false)]) 11 _ _) : a'.eval (.tmp 67) = (.bool false)))) (hK _ _ (Below.refl _ _) rfl (fun b h => h.elim)))
            intro vq w6 hb6 hD _ _
            have hv0 : vq 0 = (.pointer (some ⟨g + 1, 0, none⟩)) := hD 0 (by omega)
            have hv1 : vq 1 = (.int .i64 2) := hD 1 (by omega)
            have hv2 : vq 2 = (.bool true) := hD 2 (by omega)
            have hv3 : vq 3 = (.bool true) := hD 3 (by omega)
            have hv4 : vq 4 = (.agg #[.int .i64 ((b : Nat) : Int), .int .i64 ((n : Nat) : Int), .slice pv m cc]) := hD 4 (by omega)
            have hv5 : vq 5 = (.int .i64 ((c : Nat) : Int)) := hD 5 (by omega)
            have hv6 : vq 6 = (.pointer (some ⟨g, 1, none⟩)) := hD 6 (by omega)
            have hv7 : vq 7 = (.int .i64 ((n : Nat) : Int)) := hD 7 (by omega)
            have hv8 : vq 8 = (.bool false) := hD 8 (by omega)
            have hv9 : vq 9 = (.bool false) := hD 9 (by omega)
            have hv10 : vq 10 = (.agg #[.int .i64 ((b : Nat) : Int), .int .i64 ((n : Nat) : Int), .slice pv m cc]) := hD 10 (by omega)
            have hv11 : vq 11 = (.bool false) := hD 11 (by omega)
            have hv12 : vq 12 = (.bool false) := hD 12 (by omega)
            simp only [puts, Act.put, List.setIfInBounds_toArray, List.set_cons_zero, List.set_cons_succ, hv0, hv1, hv2, hv3, hv4, hv5, hv6, hv7, hv8, hv9, hv10, hv11, hv12, List.drop_succ_cons, List.drop_zero, Nat.zero_add, Nat.reduceAdd]
            have hab := HAB.out.below (hb6.mono HGS.out)
            have hbw := HBW.out.trans (hb6.mono (by have := HGS.out; omega))
            have hgs := Nat.le_trans HGS.out hb6.size
            clear HAB HBW HGS d0 d1 d2 x0 x1 x2 x3 x4 hb6 hD hv0 hv1 hv2 hv3 hv4 hv5 hv6 hv7 hv8 hv9 hv10 hv11 hv12
            generalize w6 = wq at hab hbw hgs ⊢
            have HAB := hid hab
            have HBW := hid hbw
            have HGS := hid hgs
            clear hab hbw hgs
            obtain ⟨d0, d1, d2, x0, x1, x2, x3, x4⟩ := HAB.out.cells
            by_cases ha0 : 0 < a
            · have e1 : decide ((0 : Int) < ((a : Nat) : Int)) = true := decide_eq_true (by omega)
              have e2 : decide (0 < a) = true := decide_eq_true ha0
              have hE : EE = 6 := by rw [← HEE0.out]; simp [addE, hi1, hv1, hq2, hc, hcn, hob, ha, ha0]
              have HE := hid hE
              clear hE
              go_wp2_with (first
                | (go_at_call 59; refine (HAT.out _ (HG.out.symm ▸ HBW.out)).mono ?_; rintro e wn ⟨rfl, hbn⟩; have hab := HAB.out.below (hbn.mono HGS.out); have hbw := HBW.out.trans (hbn.mono (Nat.le_of_succ_le (Nat.le_of_succ_le (Nat.le_of_succ_le HGS.out)))); have hgs := Nat.le_trans HGS.out hbn.size; clear HAB HBW HGS d0 d1 d2 x0 x1 x2 x3 x4 hbn; have HAB := hid hab; have HBW := hid hbw; have HGS := hid hgs; clear hab hbw hgs; obtain ⟨d0, d1, d2, x0, x1, x2, x3, x4⟩ := HAB.out.cells)
                | fail
                | (refine wpList_store_row rfl 49 (.tmp 4) (.tmp 82) rfl (g + 2) #[.int .i64 ((b : Nat) : Int), .int .i64 ((n : Nat) : Int), .slice pv m cc] rfl rfl 49 _ HAB.out.r (show (Tryz.prog.info? 49).map (·.size) = some 3 by kernel_rfl) rfl (drw_one _ _ _ _ _) ?_))
              refine bodyPost_ret (results_drw Tryz.results19 rfl rfl (setRow_at HAB.out.r)) rfl ⟨_, by rw [HE.out]; rfl, ?_⟩
              refine (fun (hB : Below W.heap.size W _) => ⟨by rw [← HLE0.out, addL, HEE0.out, HE.out, if_neg (by decide)]; exact HR.out.below hB, hB⟩) ?_
              rw [HG.out]
              exact HBW.out.trans (setRow_below (Nat.le_add_right g 2))
            · have e1 : decide ((0 : Int) < ((a : Nat) : Int)) = false := decide_eq_false (by omega)
              have e2 : decide (0 < a) = false := decide_eq_false ha0
              have hE : EE = 0 := by rw [← HEE0.out]; simp [addE, hi1, hv1, hq2, hc, hcn, hob, ha, ha0]
              have HE := hid hE
              clear hE
              go_upto_region 14 with (first
                | (go_at_call 59; refine (HAT.out _ (HG.out.symm ▸ HBW.out)).mono ?_; rintro e wn ⟨rfl, hbn⟩; have hab := HAB.out.below (hbn.mono HGS.out); have hbw := HBW.out.trans (hbn.mono (Nat.le_of_succ_le (Nat.le_of_succ_le (Nat.le_of_succ_le HGS.out)))); have hgs := Nat.le_trans HGS.out hbn.size; clear HAB HBW HGS d0 d1 d2 x0 x1 x2 x3 x4 hbn; have HAB := hid hab; have HBW := hid hbw; have HGS := hid hgs; clear hab hbw hgs; obtain ⟨d0, d1, d2, x0, x1, x2, x3, x4⟩ := HAB.out.cells)
                | fail)
              generalize wn = wb at HAB HBW HGS d0 d1 d2 x0 x1 x2 x3 x4 ⊢
              obtain ⟨B, hBe⟩ : ∃ B, wb.heap.size = B := ⟨_, rfl⟩
              have HGB := hid (hBe ▸ HGS.out : g + 3 ≤ B)
              have HBB := hid (Nat.le_of_eq hBe.symm : B ≤ wb.heap.size)
              have HRB := hid (show ∀ V, Below B wb V → ReadsL V (.slice pv m cc) ls from fun V hV => HR.out.below (HG.out.symm ▸ HBW.out.trans (hV.mono (by have := HGB.out; omega))))
              clear hBe d0 d1 d2 x0 x1 x2 x3 x4
              go_cut [] from 83 to 90 (fun wx => ∃ v6, wx.heap[g]? = some (.cells #[.int .i64 ((b : Nat) : Int), .int .i64 ((n : Nat) : Int), v6] 49 (0, 0)) ∧ wx.heap[g + 2]? = some (.cells #[.int .i64 0, .int .i64 0, .slice none 0 0] 49 (0, 0)) ∧ OwnL wx B v6 (ls ++ [⟨2, xh, xp, xv, xs⟩]) ∧ Below g W wx)
              case first =>
                refine regD (fun V => AddB V g b n (.slice pv m cc) 2 xh xp xv xs) (fun j => !(j == 8)) (by kernel_rfl) ?_
                have hax0 : AddB wb.drew g b n (.slice pv m cc) 2 xh xp xv xs := HAB.out.below (below_drewN (Below.refl _ _) 1)
                have hbx0 : Below B wb wb.drew ∧ B ≤ wb.drew.heap.size := ⟨below_drewN (Below.refl _ _) 1, HBB.out⟩
                generalize wb.drew = x0 at hax0 hbx0 ⊢
                have hS := hax0
                refine takeE (i := 1) (.pointer (some ⟨g, 2, none⟩)) (d := some 84) rfl (by kernel_rfl) (by kernel_rfl) (by kernel_rfl) (by kernel_rfl) (fun _ _ _ h => h) rfl (fun W hSw => by exact exec_fldDr 2 rfl rfl (by simp)) hS rfl ?_
                simp only [Act.put, List.setIfInBounds_toArray, List.set_cons_zero, List.set_cons_succ]
                refine takeE (i := 2) (.slice pv m cc) (d := some 85) rfl (by kernel_rfl) (by kernel_rfl) (by kernel_rfl) (by kernel_rfl) (fun _ _ _ h => h) rfl (fun W hSw => by exact exec_ldLs rfl rfl (cell_of_row _ _ 2 _ _ _ hSw.d)) hS rfl ?_
                simp only [Act.put, List.setIfInBounds_toArray, List.set_cons_zero, List.set_cons_succ]
                refine takeE (i := 4) (.agg #[.int .i64 2, .string xh, .int .i64 xp, .int .i64 xv, .string xs]) (d := some 87) rfl (by kernel_rfl) (by kernel_rfl) (by kernel_rfl) (by kernel_rfl) (fun _ _ _ h => h) rfl (fun W hSw => by exact exec_ldLine rfl rfl hSw.x) hS rfl ?_
                simp only [Act.put, List.setIfInBounds_toArray, List.set_cons_zero, List.set_cons_succ]
                clear hS
                refine stepD2 0 5 (by kernel_rfl) rfl rfl rfl rfl (fun K hK => ?_) (fun K hK => ?_)
                · go_simp
                  have hal : Below x0.heap.size x0 (x0.alloc (.cells #[] 56)) := (Below.refl _ _).alloc (Nat.le_refl _) _
                  have hmd := OwnL.made x0 B hbx0.2
                  refine hK _ _ (fun _ => hax0.below (hal.mono (Nat.le_trans HGB.out hbx0.2))) ?_
                  clear hK K
                  obtain ⟨kk, hkk⟩ : ∃ k, x0.heap.size = k := ⟨_, rfl⟩
                  rw [hkk] at hmd ⊢
                  have hkl : kk < (x0.alloc (.cells #[] 56)).heap.size := by simp [hkk]
                  generalize x0.alloc (.cells #[] 56) = x1 at hal hmd hkl ⊢
                  clear hkk
                  have hax1 := hax0.below (hal.mono (Nat.le_trans HGB.out hbx0.2))
                  have hbx1 : Below B wb x1 ∧ B ≤ x1.heap.size := ⟨hbx0.1.trans (hal.mono hbx0.2), Nat.le_trans hbx0.2 hal.size⟩
                  clear hax0 hbx0 hal
                  have hrowx1 := hmd
                  clear hmd
                  refine stepD2 3 5 (by kernel_rfl) rfl rfl rfl rfl (fun K hK => ?_) (fun K hK => ?_)
                  · refine wpO_appL (.tmp 83) (.tmp 85) rfl B (.slice (some ⟨kk, 0, none⟩) 0 0) rfl hrowx1 _ ls rfl (HRB.out x1 hbx1.1) (by omega) hbx1.2 (fun v3 x2 hrowx2 hg3 => hK _ _ (fun _ => hax1.grown hg3 hrowx1.own HGB.out) ?_)
                    clear hK K
                    have hax2 := hax1.grown hg3 hrowx1.own HGB.out
                    have hbx2 : Below B wb x2 ∧ B ≤ x2.heap.size := ⟨hbx1.1.grown hg3 hbx1.2 hrowx1.own, Nat.le_trans hbx1.2 hg3.size⟩
                    clear hax1 hbx1 hrowx1 hg3
                    refine stepD 5 (by kernel_rfl) rfl rfl (fun K hK => ?_)
                    go_simp
                    have hal : Below x2.heap.size x2 (x2.alloc (.cells #[.int .i64 2, .string xh, .int .i64 xp, .int .i64 xv, .string xs] 56)) := (Below.refl _ _).alloc (Nat.le_refl _) _
                    have hnz := heap_alloc_new x2 (.cells #[.int .i64 2, .string xh, .int .i64 xp, .int .i64 xv, .string xs] 56)
                    refine hK _ _ (fun _ => hax2.below (hal.mono (Nat.le_trans HGB.out hbx2.2))) ?_
                    clear hK K
                    obtain ⟨z8, hz8⟩ : ∃ k, x2.heap.size = k := ⟨_, rfl⟩
                    rw [hz8] at hnz ⊢
                    generalize x2.alloc (.cells #[.int .i64 2, .string xh, .int .i64 xp, .int .i64 xv, .string xs] 56) = x3 at hal hnz ⊢
                    clear hz8
                    have hax3 := hax2.below (hal.mono (Nat.le_trans HGB.out hbx2.2))
                    have hbx3 : Below B wb x3 ∧ B ≤ x3.heap.size := ⟨hbx2.1.trans (hal.mono hbx2.2), Nat.le_trans hbx2.2 hal.size⟩
                    have hrowx3 := hrowx2.below hal
                    clear hax2 hbx2 hrowx2 hal
                    have hzx3 := hnz
                    clear hnz
                    refine stepD 6 (by kernel_rfl) rfl rfl (fun K hK => ?_)
                    refine wpO_appX (.tmp 86) (.tmp 88) rfl B v3 ls rfl hrowx3 ⟨2, xh, xp, xv, xs⟩ z8 1 rfl hzx3 (by omega) hbx3.2 (fun v6 x4 hrowx4 hg6 => hK _ _ (fun _ => hax3.grown hg6 hrowx3.own HGB.out) ?_)
                    clear hK K
                    have hax4 := hax3.grown hg6 hrowx3.own HGB.out
                    have hbx4 : Below B wb x4 ∧ B ≤ x4.heap.size := ⟨hbx3.1.grown hg6 hbx3.2 hrowx3.own, Nat.le_trans hbx3.2 hg6.size⟩
                    clear hax3 hbx3 hrowx3 hg6 hzx3
                    obtain ⟨p6, c6, hv6⟩ := hrowx4.reads.form
                    obtain ⟨l6, hl6⟩ : ∃ l, (ls ++ [⟨2, xh, xp, xv, xs⟩] : List RL).length = l := ⟨_, rfl⟩
                    rw [hl6] at hv6
                    subst hv6
                    clear hl6
                    refine stepD 7 (by kernel_rfl) rfl rfl (fun K hK => ?_)
                    go_simp
                    refine hK _ _ (fun _ => hax4) ?_
                    clear hK K
                    have hfz := frozen_of_row _ _ 2 _ _ hax4.d
                    have hk2 := cell_of_row _ _ 2 _ _ _ hax4.d
                    refine stepD 8 (by kernel_rfl) rfl rfl (fun K hK => ?_)
                    go_simp
                    have hd9 : (x4.setCell ⟨g, 2, none⟩ (.slice p6 l6 c6)).heap[g]? = some (.cells #[.int .i64 ((b : Nat) : Int), .int .i64 ((n : Nat) : Int), (.slice p6 l6 c6)] 49 (0, 0)) := heap_setCell_same x4 g 2 _ _ _ hax4.d
                    have hr9 : (x4.setCell ⟨g, 2, none⟩ (.slice p6 l6 c6)).heap[g + 2]? = some (.cells #[.int .i64 0, .int .i64 0, .slice none 0 0] 49 (0, 0)) := (heap_setCell_other x4 ⟨g, 2, none⟩ (g + 2) _ (by show g + 2 ≠ g; omega)).trans hax4.r
                    have hl9 : OwnL (x4.setCell ⟨g, 2, none⟩ (.slice p6 l6 c6)) B (.slice p6 l6 c6) (ls ++ [⟨2, xh, xp, xv, xs⟩]) := OwnL.setLow hrowx4 (by have := HGB.out; omega)
                    have hb9 : Below g W (x4.setCell ⟨g, 2, none⟩ (.slice p6 l6 c6)) := (HBW.out.trans (hbx4.1.mono (by have := HGB.out; omega))).setCell (p := ⟨g, 2, none⟩) (Nat.le_refl g) _
                    refine hK _ _ (fun h => (by simp at h)) ?_
                    clear hK K hfz hk2
                    generalize x4.setCell ⟨g, 2, none⟩ (.slice p6 l6 c6) = w9 at hd9 hr9 hl9 hb9 ⊢
                    refine doneD (by kernel_rfl) ?_ _
                    refine OnlyNorm.normal ?_
                    first | go_meet | (go_step; go_meet) | (go_step; go_step; go_meet)
                    case rel => exact ⟨(.slice p6 l6 c6), hd9, hr9, hl9, hb9⟩
                  · go_simp
                    have hal : Below x1.heap.size x1 (x1.alloc (.cells #[.int .i64 2, .string xh, .int .i64 xp, .int .i64 xv, .string xs] 56)) := (Below.refl _ _).alloc (Nat.le_refl _) _
                    have hnz := heap_alloc_new x1 (.cells #[.int .i64 2, .string xh, .int .i64 xp, .int .i64 xv, .string xs] 56)
                    refine hK _ _ (fun _ => hax1.below (hal.mono (Nat.le_trans HGB.out hbx1.2))) ?_
                    clear hK K
                    obtain ⟨z8, hz8⟩ : ∃ k, x1.heap.size = k := ⟨_, rfl⟩
                    rw [hz8] at hnz ⊢
                    have hkz : z8 ≠ kk := by omega
                    generalize x1.alloc (.cells #[.int .i64 2, .string xh, .int .i64 xp, .int .i64 xv, .string xs] 56) = x2 at hal hnz ⊢
                    clear hz8
                    have hax2 := hax1.below (hal.mono (Nat.le_trans HGB.out hbx1.2))
                    have hbx2 : Below B wb x2 ∧ B ≤ x2.heap.size := ⟨hbx1.1.trans (hal.mono hbx1.2), Nat.le_trans hbx1.2 hal.size⟩
                    have hrowx2 := hrowx1.below hal
                    clear hax1 hbx1 hrowx1 hal
                    have hzx2 := hnz
                    clear hnz
                    refine stepD 3 (by kernel_rfl) rfl rfl (fun K hK => ?_)
                    refine wpO_appL (.tmp 83) (.tmp 85) rfl B (.slice (some ⟨kk, 0, none⟩) 0 0) rfl hrowx2 _ ls rfl (HRB.out x2 hbx2.1) (by omega) hbx2.2 (fun v3 x3 hrowx3 hg3 => hK _ _ (fun _ => hax2.grown hg3 hrowx2.own HGB.out) ?_)
                    clear hK K
                    have hax3 := hax2.grown hg3 hrowx2.own HGB.out
                    have hbx3 : Below B wb x3 ∧ B ≤ x3.heap.size := ⟨hbx2.1.grown hg3 hbx2.2 hrowx2.own, Nat.le_trans hbx2.2 hg3.size⟩
                    have hzx3 := (hg3.block z8 (heap_lt hzx2) (fun e => hkz (by simpa [Value.ownBlock] using e))).trans hzx2
                    clear hax2 hbx2 hrowx2 hg3 hzx2
                    refine stepD 6 (by kernel_rfl) rfl rfl (fun K hK => ?_)
                    refine wpO_appX (.tmp 86) (.tmp 88) rfl B v3 ls rfl hrowx3 ⟨2, xh, xp, xv, xs⟩ z8 1 rfl hzx3 (by omega) hbx3.2 (fun v6 x4 hrowx4 hg6 => hK _ _ (fun _ => hax3.grown hg6 hrowx3.own HGB.out) ?_)
                    clear hK K
                    have hax4 := hax3.grown hg6 hrowx3.own HGB.out
                    have hbx4 : Below B wb x4 ∧ B ≤ x4.heap.size := ⟨hbx3.1.grown hg6 hbx3.2 hrowx3.own, Nat.le_trans hbx3.2 hg6.size⟩
                    clear hax3 hbx3 hrowx3 hg6 hzx3
                    obtain ⟨p6, c6, hv6⟩ := hrowx4.reads.form
                    obtain ⟨l6, hl6⟩ : ∃ l, (ls ++ [⟨2, xh, xp, xv, xs⟩] : List RL).length = l := ⟨_, rfl⟩
                    rw [hl6] at hv6
                    subst hv6
                    clear hl6
                    refine stepD 7 (by kernel_rfl) rfl rfl (fun K hK => ?_)
                    go_simp
                    refine hK _ _ (fun _ => hax4) ?_
                    clear hK K
                    have hfz := frozen_of_row _ _ 2 _ _ hax4.d
                    have hk2 := cell_of_row _ _ 2 _ _ _ hax4.d
                    refine stepD 8 (by kernel_rfl) rfl rfl (fun K hK => ?_)
                    go_simp
                    have hd9 : (x4.setCell ⟨g, 2, none⟩ (.slice p6 l6 c6)).heap[g]? = some (.cells #[.int .i64 ((b : Nat) : Int), .int .i64 ((n : Nat) : Int), (.slice p6 l6 c6)] 49 (0, 0)) := heap_setCell_same x4 g 2 _ _ _ hax4.d
                    have hr9 : (x4.setCell ⟨g, 2, none⟩ (.slice p6 l6 c6)).heap[g + 2]? = some (.cells #[.int .i64 0, .int .i64 0, .slice none 0 0] 49 (0, 0)) := (heap_setCell_other x4 ⟨g, 2, none⟩ (g + 2) _ (by show g + 2 ≠ g; omega)).trans hax4.r
                    have hl9 : OwnL (x4.setCell ⟨g, 2, none⟩ (.slice p6 l6 c6)) B (.slice p6 l6 c6) (ls ++ [⟨2, xh, xp, xv, xs⟩]) := OwnL.setLow hrowx4 (by have := HGB.out; omega)
                    have hb9 : Below g W (x4.setCell ⟨g, 2, none⟩ (.slice p6 l6 c6)) := (HBW.out.trans (hbx4.1.mono (by have := HGB.out; omega))).setCell (p := ⟨g, 2, none⟩) (Nat.le_refl g) _
                    refine hK _ _ (fun h => (by simp at h)) ?_
                    clear hK K hfz hk2
                    generalize x4.setCell ⟨g, 2, none⟩ (.slice p6 l6 c6) = w9 at hd9 hr9 hl9 hb9 ⊢
                    refine doneD (by kernel_rfl) ?_ _
                    refine OnlyNorm.normal ?_
                    first | go_meet | (go_step; go_meet) | (go_step; go_step; go_meet)
                    case rel => exact ⟨(.slice p6 l6 c6), hd9, hr9, hl9, hb9⟩
                · go_simp
                  have hal : Below x0.heap.size x0 (x0.alloc (.cells #[.int .i64 2, .string xh, .int .i64 xp, .int .i64 xv, .string xs] 56)) := (Below.refl _ _).alloc (Nat.le_refl _) _
                  have hnz := heap_alloc_new x0 (.cells #[.int .i64 2, .string xh, .int .i64 xp, .int .i64 xv, .string xs] 56)
                  refine hK _ _ (fun _ => hax0.below (hal.mono (Nat.le_trans HGB.out hbx0.2))) ?_
                  clear hK K
                  obtain ⟨z8, hz8⟩ : ∃ k, x0.heap.size = k := ⟨_, rfl⟩
                  rw [hz8] at hnz ⊢
                  generalize x0.alloc (.cells #[.int .i64 2, .string xh, .int .i64 xp, .int .i64 xv, .string xs] 56) = x1 at hal hnz ⊢
                  clear hz8
                  have hax1 := hax0.below (hal.mono (Nat.le_trans HGB.out hbx0.2))
                  have hbx1 : Below B wb x1 ∧ B ≤ x1.heap.size := ⟨hbx0.1.trans (hal.mono hbx0.2), Nat.le_trans hbx0.2 hal.size⟩
                  clear hax0 hbx0 hal
                  have hzx1 := hnz
                  clear hnz
                  refine stepD 0 (by kernel_rfl) rfl rfl (fun K hK => ?_)
                  go_simp
                  have hal : Below x1.heap.size x1 (x1.alloc (.cells #[] 56)) := (Below.refl _ _).alloc (Nat.le_refl _) _
                  have hmd := OwnL.made x1 B hbx1.2
                  refine hK _ _ (fun _ => hax1.below (hal.mono (Nat.le_trans HGB.out hbx1.2))) ?_
                  clear hK K
                  obtain ⟨kk, hkk⟩ : ∃ k, x1.heap.size = k := ⟨_, rfl⟩
                  rw [hkk] at hmd ⊢
                  have hkz : z8 ≠ kk := by have := heap_lt hzx1; omega
                  generalize x1.alloc (.cells #[] 56) = x2 at hal hmd ⊢
                  clear hkk
                  have hax2 := hax1.below (hal.mono (Nat.le_trans HGB.out hbx1.2))
                  have hbx2 : Below B wb x2 ∧ B ≤ x2.heap.size := ⟨hbx1.1.trans (hal.mono hbx1.2), Nat.le_trans hbx1.2 hal.size⟩
                  have hzx2 := heap_below hal hzx1 (heap_lt hzx1)
                  clear hax1 hbx1 hzx1 hal
                  have hrowx2 := hmd
                  clear hmd
                  refine stepD 3 (by kernel_rfl) rfl rfl (fun K hK => ?_)
                  refine wpO_appL (.tmp 83) (.tmp 85) rfl B (.slice (some ⟨kk, 0, none⟩) 0 0) rfl hrowx2 _ ls rfl (HRB.out x2 hbx2.1) (by omega) hbx2.2 (fun v3 x3 hrowx3 hg3 => hK _ _ (fun _ => hax2.grown hg3 hrowx2.own HGB.out) ?_)
                  clear hK K
                  have hax3 := hax2.grown hg3 hrowx2.own HGB.out
                  have hbx3 : Below B wb x3 ∧ B ≤ x3.heap.size := ⟨hbx2.1.grown hg3 hbx2.2 hrowx2.own, Nat.le_trans hbx2.2 hg3.size⟩
                  have hzx3 := (hg3.block z8 (heap_lt hzx2) (fun e => hkz (by simpa [Value.ownBlock] using e))).trans hzx2
                  clear hax2 hbx2 hrowx2 hg3 hzx2
                  refine stepD 6 (by kernel_rfl) rfl rfl (fun K hK => ?_)
                  refine wpO_appX (.tmp 86) (.tmp 88) rfl B v3 ls rfl hrowx3 ⟨2, xh, xp, xv, xs⟩ z8 1 rfl hzx3 (by omega) hbx3.2 (fun v6 x4 hrowx4 hg6 => hK _ _ (fun _ => hax3.grown hg6 hrowx3.own HGB.out) ?_)
                  clear hK K
                  have hax4 := hax3.grown hg6 hrowx3.own HGB.out
                  have hbx4 : Below B wb x4 ∧ B ≤ x4.heap.size := ⟨hbx3.1.grown hg6 hbx3.2 hrowx3.own, Nat.le_trans hbx3.2 hg6.size⟩
                  clear hax3 hbx3 hrowx3 hg6 hzx3
                  obtain ⟨p6, c6, hv6⟩ := hrowx4.reads.form
                  obtain ⟨l6, hl6⟩ : ∃ l, (ls ++ [⟨2, xh, xp, xv, xs⟩] : List RL).length = l := ⟨_, rfl⟩
                  rw [hl6] at hv6
                  subst hv6
                  clear hl6
                  refine stepD 7 (by kernel_rfl) rfl rfl (fun K hK => ?_)
                  go_simp
                  refine hK _ _ (fun _ => hax4) ?_
                  clear hK K
                  have hfz := frozen_of_row _ _ 2 _ _ hax4.d
                  have hk2 := cell_of_row _ _ 2 _ _ _ hax4.d
                  refine stepD 8 (by kernel_rfl) rfl rfl (fun K hK => ?_)
                  go_simp
                  have hd9 : (x4.setCell ⟨g, 2, none⟩ (.slice p6 l6 c6)).heap[g]? = some (.cells #[.int .i64 ((b : Nat) : Int), .int .i64 ((n : Nat) : Int), (.slice p6 l6 c6)] 49 (0, 0)) := heap_setCell_same x4 g 2 _ _ _ hax4.d
                  have hr9 : (x4.setCell ⟨g, 2, none⟩ (.slice p6 l6 c6)).heap[g + 2]? = some (.cells #[.int .i64 0, .int .i64 0, .slice none 0 0] 49 (0, 0)) := (heap_setCell_other x4 ⟨g, 2, none⟩ (g + 2) _ (by show g + 2 ≠ g; omega)).trans hax4.r
                  have hl9 : OwnL (x4.setCell ⟨g, 2, none⟩ (.slice p6 l6 c6)) B (.slice p6 l6 c6) (ls ++ [⟨2, xh, xp, xv, xs⟩]) := OwnL.setLow hrowx4 (by have := HGB.out; omega)
                  have hb9 : Below g W (x4.setCell ⟨g, 2, none⟩ (.slice p6 l6 c6)) := (HBW.out.trans (hbx4.1.mono (by have := HGB.out; omega))).setCell (p := ⟨g, 2, none⟩) (Nat.le_refl g) _
                  refine hK _ _ (fun h => (by simp at h)) ?_
                  clear hK K hfz hk2
                  generalize x4.setCell ⟨g, 2, none⟩ (.slice p6 l6 c6) = w9 at hd9 hr9 hl9 hb9 ⊢
                  refine doneD (by kernel_rfl) ?_ _
                  refine OnlyNorm.normal ?_
                  first | go_meet | (go_step; go_meet) | (go_step; go_step; go_meet)
                  case rel => exact ⟨(.slice p6 l6 c6), hd9, hr9, hl9, hb9⟩
              case rest =>
                obtain ⟨v6, hd9, hr9, hl9, hb9⟩ := hcut
                obtain ⟨p6, c6, hv6⟩ := hl9.reads.form
                obtain ⟨l6, hl6⟩ : ∃ l, (ls ++ [⟨2, xh, xp, xv, xs⟩] : List RL).length = l := ⟨_, rfl⟩
                rw [hl6] at hv6
                subst hv6
                clear hl6
                have HF := hid (And.intro hl9 hb9)
                have HRW := hid hr9
                have d0 := cell_of_row _ _ 0 _ _ _ hd9
                have d1 := cell_of_row _ _ 1 _ _ _ hd9
                have d2 := cell_of_row _ _ 2 _ _ _ hd9
                clear hd9 hr9 hl9 hb9
                go_wp2_with (refine wpList_store_row rfl 49 (.tmp 4) (.tmp 91) rfl (g + 2) #[.int .i64 ((b : Nat) : Int), .int .i64 ((n : Nat) : Int), .slice p6 l6 c6] rfl rfl 49 _ HRW.out (show (Tryz.prog.info? 49).map (·.size) = some 3 by kernel_rfl) rfl (drw_one _ _ _ _ _) ?_)
                refine bodyPost_ret (results_drw Tryz.results19 rfl rfl (setRow_at HRW.out)) rfl ⟨_, by rw [HE.out]; rfl, ?_⟩
                refine (fun (hB : Below W.heap.size W _) => ⟨by rw [← HLE0.out, addL, HEE0.out, HE.out, if_pos rfl]; exact OwnL.reads (OwnL.setRowLow HF.out.1 (by have := HGB.out; omega)), hB⟩) ?_
                rw [HG.out]
                exact HF.out.2.trans (setRow_below (Nat.le_add_right g 2))
end Go.Proofs.YtbcileppebpamaaGreatDoor
