/- The law HouseTurned. -/
import Derived.Test.YtcdbkgpgjjeoiaaDoorHV6
import Derived.Deep.CutRange
namespace Go.Proofs.YtcdbkgpgjjeoiaaDoor
open Go Go.RowKit
set_option maxRecDepth 100000
set_option linter.unusedSimpArgs false
set_option linter.unusedVariables false

/-- The first j houses moved on by n. -/
def turnK (h : Nat → Nat) (n j : Nat) : Nat → Nat := fun p => if backN n p < j then h (backN n p) else 0
theorem back_rot' (n x : Nat) (hx : x < 12) : backN n (rotN n x) = x := by unfold rotN backN; omega
theorem turnK_none (h : Nat → Nat) (n : Nat) : irow 12 (cst (turnK h n 0)) = irow 12 (fun _ => 0) := irow_congr fun i hi => by unfold cst turnK; simp
theorem turnK_step (h : Nat → Nat) (n j : Nat) (hj : j < 12) : irow 12 (upd (cst (turnK h n j)) (rotN n j) ((h j : Nat) : Int)) = irow 12 (cst (turnK h n (j + 1))) := irow_congr fun i hi => by
  unfold upd cst turnK
  by_cases e : i = rotN n j
  · subst e
    rw [if_pos rfl, back_rot' n j hj, if_pos (by omega)]
  · rw [if_neg e]
    have hne : backN n i ≠ j := fun hb => e (by rw [← hb, back_rot n i hi])
    by_cases hl : backN n i < j
    · rw [if_pos hl, if_pos (by omega)]
    · rw [if_neg hl, if_neg (by omega)]
theorem turnK_all (h : Nat → Nat) (n i : Nat) (hi : i < 12) : turnK h n 12 (rotN n i) = h i := by
  unfold turnK
  rw [back_rot' n i hi, if_pos hi]
theorem turnK_lt (h : Nat → Nat) (hh : ∀ i, i < 12 → h i < 16) (n j i : Nat) : turnK h n j i < 16 := by
  unfold turnK
  split
  · exact hh _ (backN_lt n i)
  · omega
theorem quietA {P : Program} {f : FuncId} {args : Array Value} {w : World} {m x : Nat} {v : Value} (h : Calls P f args (w.drewN (m + x)) fun e w' => e = .returned v ∧ w.drewN (m + x) = w') : Calls P f args (w.drewN (m + x)) fun e w'' => e = .returned v ∧ ∃ n, w'' = w.drewN (m + n) :=
  h.mono fun _ _ ⟨he, hm⟩ => ⟨he, x, hm.symm⟩
set_option maxHeartbeats 400000 in
theorem on_c (n : Nat) (hn : n < 12) (x : Nat) (hx : x < 12) (xi : Int) (hxi : xi = ((x : Nat) : Int) + 1) (kb : Nat) (W : World) (hW : W.heap[kb]? = some (.cells #[.int .i64 ((n : Nat) : Int)] 3 (0, 0))) :
    Calls Tryd.prog 21 #[.int .i64 xi, .pointer (some ⟨kb, 0, none⟩)] W fun e w' => e = .returned (.int .i64 (((rotN n x : Nat) : Int) + 1)) ∧ W = w' := by
  have c := cell_of_row _ _ 0 _ _ (0, 0) hW
  have e1 : xi - 1 = ((x : Nat) : Int) := by omega
  have e2 : ((x : Nat) : Int) + ((n : Nat) : Int) = ((x + n : Nat) : Int) := by push_cast; rfl
  have e3 : (((x + n : Nat) : Int)) % 12 = ((rotN n x : Nat) : Int) := by unfold rotN; omega
  have hr := rotN_lt n x
  obtain ⟨s, hs⟩ : ∃ s, x + n = s := ⟨_, rfl⟩
  rw [hs] at e2 e3
  have w1 := wrap_nat x (by omega)
  have w2 := wrap_nat s (by omega)
  have w3 := wrap_nat (rotN n x) (by omega)
  have p0 : (0 : Int) ≤ s := by omega
  generalize rotN n x = r at *
  have w4 := wrap_nat (r + 1) (by omega)
  clear hW hxi hs
  go_enter Tryd.func21, Tryd.ntmps21
  go_wp2_with fail
  go_ret
  exact ⟨rfl, rfl⟩
set_option maxHeartbeats 16000000 in
theorem lawTurned (S : Nat → Nat) (A B : Nat) (by' : Nat) (hS : ∀ i, i < 12 → S i < 256) (hA : A < 256) (hB0 : B < 256) (hby : by' < 256) (w : World) (LH : LaidH w) :
    Calls Tryd.prog 4 #[.agg (u8row S A B), .int .u8 ((by' : Nat) : Int)] w fun e w' => e = .returned (.bool true) ∧ Below w.heap.size w w' := by
  have HK := LH.known
  have HHo := hid (fun W => houses_c S A B hS hA hB0 W)
  have hh := skyH_lt S
  obtain ⟨ha12, hb12, hab⟩ := sky_ab A B
  generalize skyH S = h at *
  generalize skyA A = a at *
  generalize skyB A B = b at *
  obtain ⟨n, hn⟩ : ∃ n, by' % 12 = n := ⟨_, rfl⟩
  have hn12 : n < 12 := by omega
  have en : ((by' : Nat) : Int) % 12 = ((n : Nat) : Int) := by omega
  have wn := wrap_nat n (by omega)
  obtain ⟨kk, hkk⟩ : ∃ kk, turnK h n 12 = kk := ⟨_, rfl⟩
  have hk16 : ∀ i, i < 12 → kk i < 16 := fun i _ => by rw [← hkk]; exact turnK_lt h hh n 12 i
  have hkr : ∀ i, i < 12 → kk (rotN n i) = h i := fun i hi => by rw [← hkk]; exact turnK_all h n i hi
  have hra := rotN_lt n a
  have hrb := rotN_lt n b
  have hrab : rotN n a ≠ rotN n b := fun e => hab (rotN_inj ha12 hb12 e)
  obtain ⟨ai, hai⟩ : ∃ ai : Int, ((a : Nat) : Int) + 1 = ai := ⟨_, rfl⟩
  obtain ⟨bi, hbi⟩ : ∃ bi : Int, ((b : Nat) : Int) + 1 = bi := ⟨_, rfl⟩
  obtain ⟨ra, hrai⟩ : ∃ ra : Int, ((rotN n a : Nat) : Int) + 1 = ra := ⟨_, rfl⟩
  obtain ⟨rb, hrbi⟩ : ∃ rb : Int, ((rotN n b : Nat) : Int) + 1 = rb := ⟨_, rfl⟩
  rw [hai, hbi] at HHo
  have HT1 := hid (fun W (hW : Below w.heap.size w W) => Ties_h_ok h hh a b ha12 hb12 hab ai bi hai.symm hbi.symm W (LH.B.below hW))
  have HT2 := hid (fun W (hW : Below w.heap.size w W) => Ties_h_ok kk hk16 (rotN n a) (rotN n b) hra hrb hrab ra rb hrai.symm hrbi.symm W (LH.B.below hW))
  have HA1 := hid (fun W (hW : Below w.heap.size w W) => Aspects_h_ok h hh a b ha12 hb12 hab ai bi hai.symm hbi.symm W (LH.B.below hW))
  have HA2 := hid (fun W (hW : Below w.heap.size w W) => Aspects_h_ok kk hk16 (rotN n a) (rotN n b) hra hrb hrab ra rb hrai.symm hrbi.symm W (LH.B.below hW))
  have HJ1 := hid (fun W (hW : Below w.heap.size w W) => Judge_h_ok h hh a b ha12 hb12 hab ai bi hai.symm hbi.symm W (LH.B.below hW))
  have HJ2 := hid (fun W (hW : Below w.heap.size w W) => Judge_h_ok kk hk16 (rotN n a) (rotN n b) hra hrb hrab ra rb hrai.symm hrbi.symm W (LH.B.below hW))
  rw [judge_turn h kk n hkr a b ha12 hb12] at HJ2
  have HF1 := hid (fun W => fort_c h hh W)
  have HF2 := hid (fun W => fort_c kk hk16 W)
  rw [mks_turn h kk n hkr] at HF2
  have HOA := hid (fun kb W hW => hrai ▸ on_c n hn12 a ha12 ai hai.symm kb W hW)
  have HOB := hid (fun kb W hW => hrbi ▸ on_c n hn12 b hb12 bi hbi.symm kb W hW)
  have HON := hid (fun (x : Nat) (hx : x < 12) => on_c n hn12 x hx)
  have hpt := ties_turn h kk n hkr a b ha12 hb12
  have hpa := asps_turn h kk n hkr a b ha12 hb12
  have hlt1 := perm_len hpt
  have hla1 := perm_len hpa
  have HPLts := hid (fun (t : Tie3) (ht : t ∈ tiesR h a b) => (⟨(tie_stands h a b t ht).1, (tie_stands h a b t ht).2.1, hpt.mem_iff.1 (List.mem_map.2 ⟨t, ht, rfl⟩)⟩ : t.2.1 < 12 ∧ t.2.2 < 12 ∧ turnT n t ∈ tiesR kk (rotN n a) (rotN n b)))
  have HPLal := hid (fun (t : Tie3) (ht : t ∈ aspR h a b) => (⟨((mem_aspR h a b t).1 ht).1, by rw [((mem_aspR h a b t).1 ht).2.2.2.2]; exact hb12, hpa.mem_iff.1 (List.mem_map.2 ⟨t, ht, rfl⟩)⟩ : t.2.1 < 12 ∧ t.2.2 < 12 ∧ turnT n t ∈ aspR kk (rotN n a) (rotN n b)))
  have hnb : (tiesR h a b).length ≤ 1000000 := by rw [← tS_4]; have := tS_len h a b 4 0 0 (by omega) (by omega) (by omega); omega
  have hnc : (aspR h a b).length ≤ 1000000 := by
    unfold aspR bitsL
    rw [List.length_map]
    refine Nat.le_trans (List.length_filter_le _ _) ?_
    simp
  generalize tiesR h a b = ts at *
  generalize tiesR kk (rotN n a) (rotN n b) = ms at *
  generalize aspR h a b = al at *
  generalize aspR kk (rotN n a) (rotN n b) = bl at *
  generalize judgeN h a b = jj at *
  generalize mks h 12 = mm at *
  obtain ⟨nt, hnt⟩ : ∃ nt, ts.length = nt := ⟨_, rfl⟩
  obtain ⟨na, hna⟩ : ∃ na, al.length = na := ⟨_, rfl⟩
  rw [hnt] at hnb
  rw [hna] at hnc
  have hms : ms.length = nt := by omega
  have hbl : bl.length = na := by omega
  have Hts := hid hnt
  have Hms := hid hms
  have Hal := hid hna
  have Hbl := hid hbl
  have HKK := hid hkk
  have hnn : (((nt : Nat) : Int) != ((nt : Nat) : Int)) = false := by simp
  have haa : (((na : Nat) : Int) != ((na : Nat) : Int)) = false := by simp
  have hjj : (((jj : Nat) : Int) == ((jj : Nat) : Int)) = true := by simp
  have hmm : (((mm : Nat) : Int) == ((mm : Nat) : Int)) = true := by simp
  have h0 := heap_alloc_new w (.cells (u8row S A B) 42)
  have H0 := hid h0
  have hB : Below w.heap.size w (w.alloc (.cells (u8row S A B) 42)) := (Below.refl _ _).alloc (Nat.le_refl _) _
  have HSTEP := hid (turnK_step h n)
  have HNONE := hid (turnK_none h n)
  clear LH hh hA hB0 hS h0 hab hk16 hkr hra hrb hrab hpt hpa hlt1 hla1 hnt hna hms hbl hkk hai hbi hrai hrbi hn hby ha12 hb12
  obtain ⟨g, hg⟩ : ∃ g, w.heap.size = g := ⟨_, rfl⟩
  go_enter Tryd.func4, Tryd.ntmps4
  go_upto_region 1 with fail
  generalize w.alloc (.cells (u8row S A B) 42) = w1 at *
  rw [hg] at H0 hB HK HT1 HT2 HA1 HA2 HJ1 HJ2
  go_upto_region 2 with (first
    | (refine ldsk _ rfl rfl _ rfl S A B _ H0.out ?_)
    | (go_at_call 20; refine (HHo.out _).mono ?_; rintro e w2 ⟨rfl, hb⟩; have hsz := hB.size; have hB := hB.trans (hb.mono (by omega)); have hsz2 := hB.size; have h2 := heap_alloc_new w2 (.cells (irow 12 fun _ => 0) 24); have hB3 := hB.alloc (show g ≤ w2.heap.size by omega) (.cells (irow 12 fun _ => 0) 24))
    | (simp only [zeros12]; refine strow arrHouses _ _ rfl rfl _ (cst h) rfl rfl _ _ h2 ?_; have hB := below_setRow hB3 (show g ≤ w2.heap.size by omega) (irow 12 (cst h)); have HX := hid (setRow_heap _ _ _ (irow 12 (cst h)) _ _ h2); clear h2 hB3; generalize w2.heap.size = kx at *; generalize World.setRow _ _ _ = ws at *; have hxk0 := heap_lt HX.out))
  have w8 : IntKind.u8.wrap ((n : Nat) : Int) = ((n : Nat) : Int) := by show ((n : Nat) : Int) % 256 = _; omega
  have e8 : Int.tmod ((by' : Nat) : Int) 12 = ((n : Nat) : Int) := by rw [Int.tmod_eq_emod_of_nonneg (by omega)]; exact en
  go_upto_region 5 with fail
  simp only [zeros12]
  have hsz := hB.size
  have hba : Below ws.heap.size ws ((ws.alloc (.cells #[.int .i64 ((n : Nat) : Int)] 3)).alloc (.cells (irow 12 fun _ => 0) 24)) := ((Below.refl _ _).alloc (Nat.le_refl _) _).alloc (by simp) _
  have HX := hid (heap_below hba HX.out (heap_lt HX.out))
  have HBx := hid (heap_alloc2_old ws (.cells #[.int .i64 ((n : Nat) : Int)] 3) (.cells (irow 12 fun _ => 0) 24))
  have HY := hid (heap_alloc2_new ws (.cells #[.int .i64 ((n : Nat) : Int)] 3) (.cells (irow 12 fun _ => 0) 24))
  have hB := hB.trans (hba.mono (by omega))
  obtain ⟨kb, hkb⟩ : ∃ kb, ws.heap.size = kb := ⟨_, rfl⟩
  obtain ⟨ky, hky⟩ : ∃ ky, kb + 1 = ky := ⟨_, rfl⟩
  have hxk : kx < kb := by rw [← hkb]; exact hxk0
  rw [hkb] at HBx HY hsz ⊢
  rw [hky] at HY ⊢
  generalize (ws.alloc (.cells #[.int .i64 ((n : Nat) : Int)] 3)).alloc (.cells (irow 12 fun _ => 0) 24) = wt at *
  clear hba H0 hkb
  go_wp2_with fail
  have HB0 := hid hB
  clear hB
  go_loopw [11] (fun ix wr => ∃ i : Nat, i ≤ 12 ∧ ix = .int .i64 i ∧ wr.heap[kx]? = some (.cells (irow 12 (cst h)) 24 (0, 0)) ∧ wr.heap[kb]? = some (.cells #[.int .i64 ((n : Nat) : Int)] 3 (0, 0)) ∧ wr.heap[ky]? = some (.cells (irow 12 (cst (turnK h n i))) 24 (0, 0)) ∧ Below g w wr) (fun ix _ => 12 - (intOf ix).toNat)
  case atStart => exact ⟨0, by omega, rfl, HX.out, HBx.out, by rw [HNONE.out]; exact HY.out, HB0.out⟩
  case round => as_aux_lemma =>
      clear HX HBx HY HB0
      obtain ⟨i, hi, rfl, hx0, hb0, hy0, hB⟩ := hrel
      by_cases hlt : i < 12
      · have hlt' : ((i : Nat) : Int) < 12 := by omega
        have hi0 : (0 : Int) ≤ i := by omega
        have cH := cell_irow hx0 i hlt
        rw [cst_app] at cH
        have HOn := hid (fun W hW => HON.out i hlt ((i + 1 : Nat) : Int) (by push_cast; rfl) kb W hW)
        have hrl := rotN_lt n i
        have HSTP := hid (HSTEP.out i hlt)
        obtain ⟨r, hr⟩ : ∃ r, rotN n i = r := ⟨_, rfl⟩
        rw [hr] at HOn hrl HSTP
        obtain ⟨ri, hri⟩ : ∃ ri : Int, ((r : Nat) : Int) + 1 = ri := ⟨_, rfl⟩
        rw [hri] at HOn
        have HI1 := hid (show IntKind.i64.wrap (((i : Nat) : Int) + 1) = ((i + 1 : Nat) : Int) by rw [show ((i : Nat) : Int) + 1 = ((i + 1 : Nat) : Int) by omega]; exact wrap_nat (i + 1) (by omega))
        have HR1 := hid (show IntKind.i64.wrap (ri - 1) = ((r : Nat) : Int) by rw [show ri - 1 = ((r : Nat) : Int) by omega]; exact wrap_nat r (by omega))
        have hr0 : (0 : Int) ≤ r := by omega
        have hr12 : ((r : Nat) : Int) < 12 := by omega
        have HX := hid hx0
        have HBx := hid hb0
        have HY := hid hy0
        have HBB := hid hB
        have HOn := hid (HOn.out wr.drew (show wr.drew.heap[kb]? = _ from HBx.out))
        have hfz := frozen_of_row _ _ r _ _ (show wr.drew.heap[ky]? = _ from HY.out)
        have cy := cell_irow (show wr.drew.heap[ky]? = _ from HY.out) r hrl
        clear hx0 hb0 hy0 hB hr hri
        go_wp2_with fail
        refine wpIn_wide.1 (wpIn_quiet_tail (m := 1) lets_wide 9 (by kernel_rfl) (by kernel_rfl) (by kernel_rfl) (fun W => W = wr.drew) (rfl) ?_)
        simp only [List.take_succ_cons, List.take_zero, List.drop_succ_cons, List.drop_zero]
        refine qvalK (.func (.func 21) #[] #[.pointer (some ⟨kb, 0, none⟩)]) rfl (fun W hW => by rfl) (fun K hK => ?_)
        go_simp
        refine hK _ ?_
        clear hK K
        refine qvalK (.int .i64 ((i : Nat) : Int)) rfl (fun W hW => by rfl) (fun K hK => ?_)
        go_simp
        refine hK _ ?_
        clear hK K
        refine qvalK (.int .i64 ((i + 1 : Nat) : Int)) rfl (fun W hW => by go_simp; exact HI1.out) (fun K hK => ?_)
        go_simp
        refine hK _ ?_
        clear hK K
        refine qcallK (.int .i64 ri) 21 #[.int .i64 ((i + 1 : Nat) : Int), .pointer (some ⟨kb, 0, none⟩)] rfl (fun W => by kernel_rfl) (fun W hW => by subst hW; exact HOn.out.mono fun _ _ h => ⟨h.1, h.2.symm⟩) (fun K hK => ?_)
        go_simp
        refine hK _ ?_
        clear hK K
        refine qvalK (.int .i64 ((r : Nat) : Int)) rfl (fun W hW => by go_simp; exact HR1.out) (fun K hK => ?_)
        go_simp
        refine hK _ ?_
        clear hK K
        refine qvalK (.int .i64 ((i : Nat) : Int)) rfl (fun W hW => by rfl) (fun K hK => ?_)
        go_simp
        refine hK _ ?_
        clear hK K
        refine qvalK (.pointer (some ⟨kx, i, none⟩)) rfl (fun W hW => by go_simp) (fun K hK => ?_)
        go_simp
        refine hK _ ?_
        clear hK K
        refine qvalK (.int .i64 ((h i : Nat) : Int)) rfl (fun W hW => by subst hW; have hc := cH; go_simp) (fun K hK => ?_)
        go_simp
        refine hK _ ?_
        clear hK K
        refine qvalK (.pointer (some ⟨ky, r, none⟩)) rfl (fun W hW => by go_simp) (fun K hK => ?_)
        go_simp
        refine hK _ ?_
        clear hK K
        refine wpQuiet_nil ?_
        intro W hW
        subst hW
        have HY2 := hid (set_irow (show wr.drew.heap[ky]? = _ from HY.out) r ((h i : Nat) : Int))
        rw [HSTP.out] at HY2
        have HX2 := hid ((heap_setCell_other wr.drew ⟨ky, r, none⟩ kx (.int .i64 ((h i : Nat) : Int)) (show kx ≠ ky by omega)).trans HX.out)
        have HBx2 := hid ((heap_setCell_other wr.drew ⟨ky, r, none⟩ kb (.int .i64 ((h i : Nat) : Int)) (show kb ≠ ky by omega)).trans HBx.out)
        have hBd : Below g w wr.drew := HBB.out.trans ⟨rfl, rfl, rfl, Nat.le_refl _, fun _ _ => rfl⟩
        have HB2 := hid (hBd.setCell (p := ⟨ky, r, none⟩) (show g ≤ ky by omega) (.int .i64 ((h i : Nat) : Int)))
        clear hBd
        gi_wp2_with fail
        go_wp2_with fail
        go_roundw
        case rel => exact ⟨i + 1, by omega, by go_num, HX2.out, HBx2.out, HY2.out, HB2.out⟩
        case measure => simp [intOf]; omega
      · have hge : ¬ ((i : Nat) : Int) < 12 := by omega
        have hi2 : i = 12 := by omega
        subst hi2
        rw [HKK.out] at hy0
        have HX := hid hx0
        have HBx := hid hb0
        have HY := hid hy0
        clear hx0 hb0 hy0 HON HSTEP HNONE
        go_upto_region 10 with (first
          | (refine ldrow arrHouses _ rfl rfl _ rfl _ _ HX.out ?_)
          | (go_at_call 22; refine (HT1.out _ hB).mono ?_; rintro e w3 ⟨⟨v1, rfl, hR1⟩, hb⟩; obtain ⟨p1, c1, rfl, hC1⟩ := readT_form hR1; clear hC1; rw [Hts.out] at hR1 ⊢; have hsz := hB.size; have HX := hid (heap_below hb HX.out (heap_lt HX.out)); have HBx := hid (heap_below hb HBx.out (heap_lt HBx.out)); have HY := hid (heap_below hb HY.out (heap_lt HY.out)); have hB := hB.trans (hb.mono (by omega)); clear HT1))
        go_cut [14, 15] from 63 to 73 (fun u v wc => ∃ (p2 : Option Addr) (c2 : Nat), u = .slice p2 nt c2 ∧ v = .int .i64 0 ∧ ReadsT wc (.slice p2 nt c2) ms ∧ Below w3.heap.size w3 wc)
        case first => as_aux_lemma =>
            have hS0 : Below w3.heap.size w3 w3.drew := ⟨rfl, rfl, rfl, Nat.le_refl _, fun _ _ => rfl⟩
            have HBS := hid hB
            have HSZ := hid hB.size
            clear hB
            refine regD (fun V => Below w3.heap.size w3 V) (fun _ => true) (by kernel_rfl) ?_
            refine takeE (i := 0) (.agg (irow 12 (cst kk))) (d := some 64) rfl (by kernel_rfl) (by kernel_rfl) (by kernel_rfl) (by kernel_rfl) (fun _ _ _ h => h) rfl (fun W hW => by exact exec_ldrow arrHouses rfl rfl (heap_below hW HY.out (heap_lt HY.out))) hS0 rfl ?_
            simp only [Act.put, List.setIfInBounds_toArray, List.set_cons_zero, List.set_cons_succ]
            refine takeE (i := 1) (.func (.func 21) #[] #[.pointer (some ⟨kb, 0, none⟩)]) (d := some 65) rfl (by kernel_rfl) (by kernel_rfl) (by kernel_rfl) (by kernel_rfl) (fun _ _ _ h => h) rfl (fun W hW => by rfl) hS0 rfl ?_
            simp only [Act.put, List.setIfInBounds_toArray, List.set_cons_zero, List.set_cons_succ]
            refine takeE (i := 2) (.int .i64 ai) (d := some 66) rfl (by kernel_rfl) (by kernel_rfl) (by kernel_rfl) (by kernel_rfl) (fun _ _ _ h => h) rfl (fun W hW => by rfl) hS0 rfl ?_
            simp only [Act.put, List.setIfInBounds_toArray, List.set_cons_zero, List.set_cons_succ]
            refine takeE (i := 4) (.func (.func 21) #[] #[.pointer (some ⟨kb, 0, none⟩)]) (d := some 68) rfl (by kernel_rfl) (by kernel_rfl) (by kernel_rfl) (by kernel_rfl) (fun _ _ _ h => h) rfl (fun W hW => by rfl) hS0 rfl ?_
            simp only [Act.put, List.setIfInBounds_toArray, List.set_cons_zero, List.set_cons_succ]
            refine takeE (i := 5) (.int .i64 bi) (d := some 69) rfl (by kernel_rfl) (by kernel_rfl) (by kernel_rfl) (by kernel_rfl) (fun _ _ _ h => h) rfl (fun W hW => by rfl) hS0 rfl ?_
            simp only [Act.put, List.setIfInBounds_toArray, List.set_cons_zero, List.set_cons_succ]
            refine stepD 3 (by kernel_rfl) rfl rfl (fun K hK => ?_)
            go_simp
            go_at_call 21
            refine (HOA.out kb _ (show w3.drew.heap[kb]? = _ from HBx.out)).mono ?_
            rintro e V1 ⟨rfl, rfl⟩
            go_simp
            refine hK _ _ (fun _ => hS0) ?_
            clear hK K
            refine stepD 6 (by kernel_rfl) rfl rfl (fun K hK => ?_)
            go_simp
            go_at_call 21
            refine (HOB.out kb _ (show w3.drew.heap[kb]? = _ from HBx.out)).mono ?_
            rintro e V1 ⟨rfl, rfl⟩
            go_simp
            refine hK _ _ (fun _ => hS0) ?_
            clear hK K
            refine stepD 7 (by kernel_rfl) rfl rfl (fun K hK => ?_)
            go_simp
            go_at_call 22
            refine (HT2.out _ (HBS.out.trans (hS0.mono (by have := HSZ.out; omega)))).mono ?_
            rintro e V4 ⟨⟨v2, rfl, hR2⟩, hb⟩
            have hS4 := hS0.trans hb
            go_simp
            refine hK _ _ (fun _ => hS4) ?_
            clear hK K
            refine stepD 8 (by kernel_rfl) rfl rfl (fun K hK => ?_)
            go_simp
            refine hK _ _ (fun _ => hS4) ?_
            clear hK K
            refine takeE (i := 9) (v2) (d := some 72) rfl (by kernel_rfl) (by kernel_rfl) (by kernel_rfl) (by kernel_rfl) (fun _ _ _ h => h) rfl (fun W hW => by rfl) hS4 rfl ?_
            simp only [Act.put, List.setIfInBounds_toArray, List.set_cons_zero, List.set_cons_succ]
            refine takeE (i := 10) (.int .i64 0) (d := some 73) rfl (by kernel_rfl) (by kernel_rfl) (by kernel_rfl) (by kernel_rfl) (fun _ _ _ h => h) rfl (fun W hW => by rfl) hS4 rfl ?_
            simp only [Act.put, List.setIfInBounds_toArray, List.set_cons_zero, List.set_cons_succ]
            refine takeE (i := 11) (v2) (d := some 14) rfl (by kernel_rfl) (by kernel_rfl) (by kernel_rfl) (by kernel_rfl) (fun _ _ _ h => h) rfl (fun W hW => by rfl) hS4 rfl ?_
            simp only [Act.put, List.setIfInBounds_toArray, List.set_cons_zero, List.set_cons_succ]
            refine takeE (i := 12) (.int .i64 0) (d := some 15) rfl (by kernel_rfl) (by kernel_rfl) (by kernel_rfl) (by kernel_rfl) (fun _ _ _ h => h) rfl (fun W hW => by rfl) hS4 rfl ?_
            simp only [Act.put, List.setIfInBounds_toArray, List.set_cons_zero, List.set_cons_succ]
            refine doneD (by kernel_rfl) ?_ _
            refine OnlyNorm.normal ?_
            go_step
            go_step
            go_meet
            case rel => (obtain ⟨p2, c2, rfl, hC2⟩ := readT_form hR2; have e := Hms.out; rw [e] at hR2; exact ⟨p2, c2, by rw [e], rfl, hR2, hS4⟩)
        case rest =>
          obtain ⟨p2, c2, rfl, rfl, hR2, hb⟩ := hcut
          have hsz := hB.size; have HX := hid (heap_below hb HX.out (heap_lt HX.out)); have HBx := hid (heap_below hb HBx.out (heap_lt HBx.out)); have HY := hid (heap_below hb HY.out (heap_lt HY.out)); have hB := hB.trans (hb.mono (by omega))
          have hR1 := hR1.below hb
          clear HT2 hb
          go_upto_region 12 with (first
            | (refine ldrow arrHouses _ rfl rfl _ rfl _ _ HX.out ?_)
            | (go_at_call 23; refine (HA1.out _ hB).mono ?_; rintro e w5 ⟨⟨v3, rfl, hR3⟩, hb⟩; obtain ⟨p3, c3, rfl, hC3⟩ := readT_form hR3; clear hC3; rw [Hal.out] at hR3 ⊢; have hsz := hB.size; have HX := hid (heap_below hb HX.out (heap_lt HX.out)); have HBx := hid (heap_below hb HBx.out (heap_lt HBx.out)); have HY := hid (heap_below hb HY.out (heap_lt HY.out)); have hB := hB.trans (hb.mono (by omega)); have hR1 := hR1.below hb; have hR2 := hR2.below hb; clear HA1))
          go_cut [18, 19] from 81 to 91 (fun u v wc => ∃ (p4 : Option Addr) (c4 : Nat), u = .slice p4 na c4 ∧ v = .int .i64 0 ∧ ReadsT wc (.slice p4 na c4) bl ∧ Below w5.heap.size w5 wc)
          case first => as_aux_lemma =>
              have hS0 : Below w5.heap.size w5 w5.drew := ⟨rfl, rfl, rfl, Nat.le_refl _, fun _ _ => rfl⟩
              have HBS := hid hB
              have HSZ := hid hB.size
              clear hB
              refine regD (fun V => Below w5.heap.size w5 V) (fun _ => true) (by kernel_rfl) ?_
              refine takeE (i := 0) (.agg (irow 12 (cst kk))) (d := some 82) rfl (by kernel_rfl) (by kernel_rfl) (by kernel_rfl) (by kernel_rfl) (fun _ _ _ h => h) rfl (fun W hW => by exact exec_ldrow arrHouses rfl rfl (heap_below hW HY.out (heap_lt HY.out))) hS0 rfl ?_
              simp only [Act.put, List.setIfInBounds_toArray, List.set_cons_zero, List.set_cons_succ]
              refine takeE (i := 1) (.func (.func 21) #[] #[.pointer (some ⟨kb, 0, none⟩)]) (d := some 83) rfl (by kernel_rfl) (by kernel_rfl) (by kernel_rfl) (by kernel_rfl) (fun _ _ _ h => h) rfl (fun W hW => by rfl) hS0 rfl ?_
              simp only [Act.put, List.setIfInBounds_toArray, List.set_cons_zero, List.set_cons_succ]
              refine takeE (i := 2) (.int .i64 ai) (d := some 84) rfl (by kernel_rfl) (by kernel_rfl) (by kernel_rfl) (by kernel_rfl) (fun _ _ _ h => h) rfl (fun W hW => by rfl) hS0 rfl ?_
              simp only [Act.put, List.setIfInBounds_toArray, List.set_cons_zero, List.set_cons_succ]
              refine takeE (i := 4) (.func (.func 21) #[] #[.pointer (some ⟨kb, 0, none⟩)]) (d := some 86) rfl (by kernel_rfl) (by kernel_rfl) (by kernel_rfl) (by kernel_rfl) (fun _ _ _ h => h) rfl (fun W hW => by rfl) hS0 rfl ?_
              simp only [Act.put, List.setIfInBounds_toArray, List.set_cons_zero, List.set_cons_succ]
              refine takeE (i := 5) (.int .i64 bi) (d := some 87) rfl (by kernel_rfl) (by kernel_rfl) (by kernel_rfl) (by kernel_rfl) (fun _ _ _ h => h) rfl (fun W hW => by rfl) hS0 rfl ?_
              simp only [Act.put, List.setIfInBounds_toArray, List.set_cons_zero, List.set_cons_succ]
              refine stepD 3 (by kernel_rfl) rfl rfl (fun K hK => ?_)
              go_simp
              go_at_call 21
              refine (HOA.out kb _ (show w5.drew.heap[kb]? = _ from HBx.out)).mono ?_
              rintro e V1 ⟨rfl, rfl⟩
              go_simp
              refine hK _ _ (fun _ => hS0) ?_
              clear hK K
              refine stepD 6 (by kernel_rfl) rfl rfl (fun K hK => ?_)
              go_simp
              go_at_call 21
              refine (HOB.out kb _ (show w5.drew.heap[kb]? = _ from HBx.out)).mono ?_
              rintro e V1 ⟨rfl, rfl⟩
              go_simp
              refine hK _ _ (fun _ => hS0) ?_
              clear hK K
              refine stepD 7 (by kernel_rfl) rfl rfl (fun K hK => ?_)
              go_simp
              go_at_call 23
              refine (HA2.out _ (HBS.out.trans (hS0.mono (by have := HSZ.out; omega)))).mono ?_
              rintro e V4 ⟨⟨v2, rfl, hR4⟩, hb⟩
              have hS4 := hS0.trans hb
              go_simp
              refine hK _ _ (fun _ => hS4) ?_
              clear hK K
              refine stepD 8 (by kernel_rfl) rfl rfl (fun K hK => ?_)
              go_simp
              refine hK _ _ (fun _ => hS4) ?_
              clear hK K
              refine takeE (i := 9) (v2) (d := some 90) rfl (by kernel_rfl) (by kernel_rfl) (by kernel_rfl) (by kernel_rfl) (fun _ _ _ h => h) rfl (fun W hW => by rfl) hS4 rfl ?_
              simp only [Act.put, List.setIfInBounds_toArray, List.set_cons_zero, List.set_cons_succ]
              refine takeE (i := 10) (.int .i64 0) (d := some 91) rfl (by kernel_rfl) (by kernel_rfl) (by kernel_rfl) (by kernel_rfl) (fun _ _ _ h => h) rfl (fun W hW => by rfl) hS4 rfl ?_
              simp only [Act.put, List.setIfInBounds_toArray, List.set_cons_zero, List.set_cons_succ]
              refine takeE (i := 11) (v2) (d := some 18) rfl (by kernel_rfl) (by kernel_rfl) (by kernel_rfl) (by kernel_rfl) (fun _ _ _ h => h) rfl (fun W hW => by rfl) hS4 rfl ?_
              simp only [Act.put, List.setIfInBounds_toArray, List.set_cons_zero, List.set_cons_succ]
              refine takeE (i := 12) (.int .i64 0) (d := some 19) rfl (by kernel_rfl) (by kernel_rfl) (by kernel_rfl) (by kernel_rfl) (fun _ _ _ h => h) rfl (fun W hW => by rfl) hS4 rfl ?_
              simp only [Act.put, List.setIfInBounds_toArray, List.set_cons_zero, List.set_cons_succ]
              refine doneD (by kernel_rfl) ?_ _
              refine OnlyNorm.normal ?_
              go_step
              go_step
              go_meet
              case rel => (obtain ⟨p4, c4, rfl, hC4⟩ := readT_form hR4; have e := Hbl.out; rw [e] at hR4; exact ⟨p4, c4, by rw [e], rfl, hR4, hS4⟩)
          case rest =>
            obtain ⟨p4, c4, rfl, rfl, hR4, hb⟩ := hcut
            have hsz := hB.size; have HX := hid (heap_below hb HX.out (heap_lt HX.out)); have HBx := hid (heap_below hb HBx.out (heap_lt HBx.out)); have HY := hid (heap_below hb HY.out (heap_lt HY.out)); have hB := hB.trans (hb.mono (by omega))
            have HR1 := hid (hR1.below hb)
            have HR2 := hid (hR2.below hb)
            have HR3 := hid (hR3.below hb)
            have HR4 := hid hR4
            have HB0 := hid hB
            clear HA2 hb hR1 hR2 hR3 hR4 hB
            go_wp2_with fail
            go_loopw [20] (fun ix wr => ∃ j : Nat, j ≤ nt ∧ ix = .int .i64 j ∧ wr.heap[kx]? = some (.cells (irow 12 (cst h)) 24 (0, 0)) ∧ wr.heap[kb]? = some (.cells #[.int .i64 ((n : Nat) : Int)] 3 (0, 0)) ∧ wr.heap[ky]? = some (.cells (irow 12 (cst kk)) 24 (0, 0)) ∧ ReadsT wr (.slice p1 nt c1) ts ∧ ReadsT wr (.slice p2 nt c2) ms ∧ ReadsT wr (.slice p3 na c3) al ∧ ReadsT wr (.slice p4 na c4) bl ∧ Below g w wr) (fun ix _ => nt - (intOf ix).toNat)
            case atStart => exact ⟨0, by omega, rfl, HX.out, HBx.out, HY.out, HR1.out, HR2.out, HR3.out, HR4.out, HB0.out⟩
            case round => as_aux_lemma =>
                clear HX HBx HY HR1 HR2 HR3 HR4 HB0
                obtain ⟨j, hj', rfl, hx0, hb0, hy0, r1, r2, r3, r4, hB⟩ := hrel
                have HX := hid hx0
                have HBx := hid hb0
                have HY := hid hy0
                have HR1 := hid r1
                have HR2 := hid r2
                have HR3 := hid r3
                have HR4 := hid r4
                clear hx0 hb0 hy0 r1 r2 r3 r4 hj'
                by_cases hlt : j < nt
                · have hlt' : ((j : Nat) : Int) < nt := by omega
                  have hj0 : (0 : Int) ≤ j := by omega
                  have hjl : j < ts.length := by rw [Hts.out]; exact hlt
                  have hjm : 0 < ms.length := by rw [Hms.out]; omega
                  obtain ⟨G, hp, hG, a0, a1, a2⟩ := readT_at HR1.out j hjl
                  have hst := HPLts.out ts[j] (List.getElem_mem hjl)
                  generalize ts[j] = z at *
                  obtain ⟨z0, x, y⟩ := z
                  simp only at hst a0 a1 a2
                  obtain ⟨hx12, hy12, hmem⟩ := hst
                  unfold turnT at hmem
                  simp only at hmem
                  have HMem := hid hmem
                  have HOx := hid (fun W hW => on_c n hn12 x hx12 ((x + 1 : Nat) : Int) (by push_cast; rfl) kb W hW)
                  have HOy := hid (fun W hW => on_c n hn12 y hy12 ((y + 1 : Nat) : Int) (by push_cast; rfl) kb W hW)
                  have hge1 : decide ((1 : Int) ≤ ((x + 1 : Nat) : Int)) = true := decide_eq_true (by omega)
                  have hge2 : decide ((1 : Int) ≤ ((y + 1 : Nat) : Int)) = true := decide_eq_true (by omega)
                  have hg1 : (1 : Int) ≤ ((x + 1 : Nat) : Int) := by omega
                  have hg2 : (1 : Int) ≤ ((y + 1 : Nat) : Int) := by omega
                  obtain ⟨rx, hrx⟩ : ∃ rx, rotN n x = rx := ⟨_, rfl⟩
                  obtain ⟨ry, hry⟩ : ∃ ry, rotN n y = ry := ⟨_, rfl⟩
                  rw [hrx] at HOx HMem
                  rw [hry] at HOy HMem
                  generalize ((x + 1 : Nat) : Int) = xi at *
                  generalize ((y + 1 : Nat) : Int) = yi at *
                  have HC2 := hid (readT_at HR2.out)
                  clear hmem hrx hry hx12 hy12
                  subst hp
                  go_wp2_with fail
                  go_loopw [21, 22] (fun fo ix wq => ∃ q m : Nat, q ≤ nt ∧ ix = .int .i64 q ∧ fo = .bool (inT ms (z0, rx, ry) q) ∧ wq = wr.drewN m) (fun _ ix _ => nt - (intOf ix).toNat)
                  case atStart => exact ⟨0, 0, by omega, rfl, rfl, rfl⟩
                  case round => as_aux_lemma =>
                      obtain ⟨q, m, hq, rfl, rfl, rfl⟩ := hrel
                      by_cases hqt : q < nt
                      · have hqt' : ((q : Nat) : Int) < nt := by omega
                        have hq0 : (0 : Int) ≤ q := by omega
                        have hql : q < ms.length := by rw [Hms.out]; exact hqt
                        have HST := hid (inT_step ms (z0, rx, ry) q hql)
                        cases hin : inT ms (z0, rx, ry) q with
                        | true =>
                          rw [hin, Bool.true_or] at HST
                          clear hin
                          go_wp2_with fail
                          go_quiet (fail)
                          go_wp2_with fail
                          go_roundw
                          case rel => exact ⟨q + 1, m + nq, by omega, by go_num, by rw [HST.out], rfl⟩
                          case measure => simp [intOf]; omega
                        | false =>
                          rw [hin, Bool.false_or, tie3_eq] at HST
                          clear hin
                          obtain ⟨G', hp', hG', b0, b1, b2⟩ := HC2.out q hql
                          have e0 := beqZ ms[q].1 z0
                          have e1 := beqS ms[q].2.1 rx
                          have e2 := beqS ms[q].2.2 ry
                          simp only at HST
                          generalize ms[q].1 = z0' at *
                          generalize ms[q].2.1 = x' at *
                          generalize ms[q].2.2 = y' at *
                          generalize (z0' == z0) = t0 at *
                          generalize (x' == rx) = t1 at *
                          generalize (y' == ry) = t2 at *
                          have e1' : (((x' + 1 : Nat) : Int) == ((rx : Nat) : Int) + 1) = t1 := by rw [← e1]; push_cast; rfl
                          have e2' : (((y' + 1 : Nat) : Int) == ((ry : Nat) : Int) + 1) = t2 := by rw [← e2]; push_cast; rfl
                          generalize ((x' + 1 : Nat) : Int) = xi' at *
                          generalize ((y' + 1 : Nat) : Int) = yi' at *
                          clear e1 e2
                          have HOX := hid (fun z => HOx.out (wr.drewN z) (show (wr.drewN z).heap[kb]? = _ from HBx.out))
                          have HOY := hid (fun z => HOy.out (wr.drewN z) (show (wr.drewN z).heap[kb]? = _ from HBx.out))
                          generalize ((rx : Nat) : Int) + 1 = rxi at *
                          generalize ((ry : Nat) : Int) + 1 = ryi at *
                          cases t0 with
                          | false =>
                            go_wp2_with fail
                            go_quiet (first
                              | (go_at_call_of 21 (Value.int .i64 xi); exact quietA (HOX.out _))
                              | (go_at_call 21; exact quietA (HOY.out _)))
                            go_wp2_with fail
                            go_roundw
                            case rel => exact ⟨q + 1, m + nq, by omega, by go_num, by rw [HST.out]; rfl, rfl⟩
                            case measure => simp [intOf]; omega
                          | true =>
                            cases t1 with
                            | false =>
                              go_wp2_with fail
                              go_quiet (first
                                | (go_at_call_of 21 (Value.int .i64 xi); exact quietA (HOX.out _))
                                | (go_at_call 21; exact quietA (HOY.out _)))
                              go_wp2_with fail
                              go_roundw
                              case rel => exact ⟨q + 1, m + nq, by omega, by go_num, by rw [HST.out]; rfl, rfl⟩
                              case measure => simp [intOf]; omega
                            | true =>
                              cases t2 with
                              | false =>
                                go_wp2_with fail
                                go_quiet (first
                                  | (go_at_call_of 21 (Value.int .i64 xi); exact quietA (HOX.out _))
                                  | (go_at_call 21; exact quietA (HOY.out _)))
                                go_wp2_with fail
                                go_roundw
                                case rel => exact ⟨q + 1, m + nq, by omega, by go_num, by rw [HST.out]; rfl, rfl⟩
                                case measure => simp [intOf]; omega
                              | true =>
                                go_wp2_with fail
                                go_quiet (first
                                  | (go_at_call_of 21 (Value.int .i64 xi); exact quietA (HOX.out _))
                                  | (go_at_call 21; exact quietA (HOY.out _)))
                                go_wp2_with fail
                                go_roundw
                                case rel => exact ⟨q + 1, m + nq, by omega, by go_num, by rw [HST.out]; rfl, rfl⟩
                                case measure => simp [intOf]; omega
                      · have hge : ¬ ((q : Nat) : Int) < nt := by omega
                        have hfin : inT ms (z0, rx, ry) q = true := inT_all ms _ q (by rw [Hms.out]; omega) HMem.out
                        rw [hfin]
                        go_wp2_with fail
                        go_roundw
                        case rel => exact ⟨j + 1, by omega, by go_num, HX.out, HBx.out, HY.out, HR1.out.below (below_drewN (Below.refl _ _) _), HR2.out.below (below_drewN (Below.refl _ _) _), HR3.out.below (below_drewN (Below.refl _ _) _), HR4.out.below (below_drewN (Below.refl _ _) _), below_drewN hB _⟩
                        case measure => simp [intOf]; omega
                · have hge : ¬ ((j : Nat) : Int) < nt := by omega
                  have HB0 := hid hB
                  clear hB
                  go_wp2_with fail
                  go_loopw [23] (fun ix wr => ∃ j : Nat, j ≤ na ∧ ix = .int .i64 j ∧ wr.heap[kx]? = some (.cells (irow 12 (cst h)) 24 (0, 0)) ∧ wr.heap[kb]? = some (.cells #[.int .i64 ((n : Nat) : Int)] 3 (0, 0)) ∧ wr.heap[ky]? = some (.cells (irow 12 (cst kk)) 24 (0, 0)) ∧ ReadsT wr (.slice p1 nt c1) ts ∧ ReadsT wr (.slice p2 nt c2) ms ∧ ReadsT wr (.slice p3 na c3) al ∧ ReadsT wr (.slice p4 na c4) bl ∧ Below g w wr) (fun ix _ => na - (intOf ix).toNat)
                  case atStart => exact ⟨0, by omega, rfl, HX.out, HBx.out, HY.out, HR1.out, HR2.out, HR3.out, HR4.out, HB0.out⟩
                  case round => as_aux_lemma =>
                      clear HX HBx HY HR1 HR2 HR3 HR4 HB0
                      obtain ⟨j, hj', rfl, hx0, hb0, hy0, r1, r2, r3, r4, hB⟩ := hrel
                      have HX := hid hx0
                      have HBx := hid hb0
                      have HY := hid hy0
                      have HR1 := hid r1
                      have HR2 := hid r2
                      have HR3 := hid r3
                      have HR4 := hid r4
                      clear hx0 hb0 hy0 r1 r2 r3 r4 hj'
                      by_cases hlt : j < na
                      · have hlt' : ((j : Nat) : Int) < na := by omega
                        have hj0 : (0 : Int) ≤ j := by omega
                        have hjl : j < al.length := by rw [Hal.out]; exact hlt
                        have hjm : 0 < bl.length := by rw [Hbl.out]; omega
                        obtain ⟨G, hp, hG, a0, a1, a2⟩ := readT_at HR3.out j hjl
                        have hst := HPLal.out al[j] (List.getElem_mem hjl)
                        generalize al[j] = z at *
                        obtain ⟨z0, x, y⟩ := z
                        simp only at hst a0 a1 a2
                        obtain ⟨hx12, hy12, hmem⟩ := hst
                        unfold turnT at hmem
                        simp only at hmem
                        have HMem := hid hmem
                        have HOx := hid (fun W hW => on_c n hn12 x hx12 ((x + 1 : Nat) : Int) (by push_cast; rfl) kb W hW)
                        have HOy := hid (fun W hW => on_c n hn12 y hy12 ((y + 1 : Nat) : Int) (by push_cast; rfl) kb W hW)
                        have hge1 : decide ((1 : Int) ≤ ((x + 1 : Nat) : Int)) = true := decide_eq_true (by omega)
                        have hge2 : decide ((1 : Int) ≤ ((y + 1 : Nat) : Int)) = true := decide_eq_true (by omega)
                        have hg1 : (1 : Int) ≤ ((x + 1 : Nat) : Int) := by omega
                        have hg2 : (1 : Int) ≤ ((y + 1 : Nat) : Int) := by omega
                        obtain ⟨rx, hrx⟩ : ∃ rx, rotN n x = rx := ⟨_, rfl⟩
                        obtain ⟨ry, hry⟩ : ∃ ry, rotN n y = ry := ⟨_, rfl⟩
                        rw [hrx] at HOx HMem
                        rw [hry] at HOy HMem
                        generalize ((x + 1 : Nat) : Int) = xi at *
                        generalize ((y + 1 : Nat) : Int) = yi at *
                        have HC2 := hid (readT_at HR4.out)
                        clear hmem hrx hry hx12 hy12
                        subst hp
                        go_wp2_with fail
                        go_loopw [24, 25] (fun fo ix wq => ∃ q m : Nat, q ≤ na ∧ ix = .int .i64 q ∧ fo = .bool (inT bl (z0, rx, ry) q) ∧ wq = wr.drewN m) (fun _ ix _ => na - (intOf ix).toNat)
                        case atStart => exact ⟨0, 0, by omega, rfl, rfl, rfl⟩
                        case round => as_aux_lemma =>
                            obtain ⟨q, m, hq, rfl, rfl, rfl⟩ := hrel
                            by_cases hqt : q < na
                            · have hqt' : ((q : Nat) : Int) < na := by omega
                              have hq0 : (0 : Int) ≤ q := by omega
                              have hql : q < bl.length := by rw [Hbl.out]; exact hqt
                              have HST := hid (inT_step bl (z0, rx, ry) q hql)
                              cases hin : inT bl (z0, rx, ry) q with
                              | true =>
                                rw [hin, Bool.true_or] at HST
                                clear hin
                                go_wp2_with fail
                                go_quiet (fail)
                                go_wp2_with fail
                                go_roundw
                                case rel => exact ⟨q + 1, m + nq, by omega, by go_num, by rw [HST.out], rfl⟩
                                case measure => simp [intOf]; omega
                              | false =>
                                rw [hin, Bool.false_or, tie3_eq] at HST
                                clear hin
                                obtain ⟨G', hp', hG', b0, b1, b2⟩ := HC2.out q hql
                                have e0 := beqZ bl[q].1 z0
                                have e1 := beqS bl[q].2.1 rx
                                have e2 := beqS bl[q].2.2 ry
                                simp only at HST
                                generalize bl[q].1 = z0' at *
                                generalize bl[q].2.1 = x' at *
                                generalize bl[q].2.2 = y' at *
                                generalize (z0' == z0) = t0 at *
                                generalize (x' == rx) = t1 at *
                                generalize (y' == ry) = t2 at *
                                have e1' : (((x' + 1 : Nat) : Int) == ((rx : Nat) : Int) + 1) = t1 := by rw [← e1]; push_cast; rfl
                                have e2' : (((y' + 1 : Nat) : Int) == ((ry : Nat) : Int) + 1) = t2 := by rw [← e2]; push_cast; rfl
                                generalize ((x' + 1 : Nat) : Int) = xi' at *
                                generalize ((y' + 1 : Nat) : Int) = yi' at *
                                clear e1 e2
                                have HOX := hid (fun z => HOx.out (wr.drewN z) (show (wr.drewN z).heap[kb]? = _ from HBx.out))
                                have HOY := hid (fun z => HOy.out (wr.drewN z) (show (wr.drewN z).heap[kb]? = _ from HBx.out))
                                generalize ((rx : Nat) : Int) + 1 = rxi at *
                                generalize ((ry : Nat) : Int) + 1 = ryi at *
                                cases t0 with
                                | false =>
                                  go_wp2_with fail
                                  go_quiet (first
                                    | (go_at_call_of 21 (Value.int .i64 xi); exact quietA (HOX.out _))
                                    | (go_at_call 21; exact quietA (HOY.out _)))
                                  go_wp2_with fail
                                  go_roundw
                                  case rel => exact ⟨q + 1, m + nq, by omega, by go_num, by rw [HST.out]; rfl, rfl⟩
                                  case measure => simp [intOf]; omega
                                | true =>
                                  cases t1 with
                                  | false =>
                                    go_wp2_with fail
                                    go_quiet (first
                                      | (go_at_call_of 21 (Value.int .i64 xi); exact quietA (HOX.out _))
                                      | (go_at_call 21; exact quietA (HOY.out _)))
                                    go_wp2_with fail
                                    go_roundw
                                    case rel => exact ⟨q + 1, m + nq, by omega, by go_num, by rw [HST.out]; rfl, rfl⟩
                                    case measure => simp [intOf]; omega
                                  | true =>
                                    cases t2 with
                                    | false =>
                                      go_wp2_with fail
                                      go_quiet (first
                                        | (go_at_call_of 21 (Value.int .i64 xi); exact quietA (HOX.out _))
                                        | (go_at_call 21; exact quietA (HOY.out _)))
                                      go_wp2_with fail
                                      go_roundw
                                      case rel => exact ⟨q + 1, m + nq, by omega, by go_num, by rw [HST.out]; rfl, rfl⟩
                                      case measure => simp [intOf]; omega
                                    | true =>
                                      go_wp2_with fail
                                      go_quiet (first
                                        | (go_at_call_of 21 (Value.int .i64 xi); exact quietA (HOX.out _))
                                        | (go_at_call 21; exact quietA (HOY.out _)))
                                      go_wp2_with fail
                                      go_roundw
                                      case rel => exact ⟨q + 1, m + nq, by omega, by go_num, by rw [HST.out]; rfl, rfl⟩
                                      case measure => simp [intOf]; omega
                            · have hge : ¬ ((q : Nat) : Int) < na := by omega
                              have hfin : inT bl (z0, rx, ry) q = true := inT_all bl _ q (by rw [Hbl.out]; omega) HMem.out
                              rw [hfin]
                              go_wp2_with fail
                              go_roundw
                              case rel => exact ⟨j + 1, by omega, by go_num, HX.out, HBx.out, HY.out, HR1.out.below (below_drewN (Below.refl _ _) _), HR2.out.below (below_drewN (Below.refl _ _) _), HR3.out.below (below_drewN (Below.refl _ _) _), HR4.out.below (below_drewN (Below.refl _ _) _), below_drewN hB _⟩
                              case measure => simp [intOf]; omega
                      · have hge : ¬ ((j : Nat) : Int) < na := by omega
                        have HB0 := hid hB
                        clear hB
                        have hB := HB0.out
                        clear HB0 HR1 HR2 HR3 HR4 Hts Hms Hal Hbl HPLts HPLal
                        go_upto_region 36 with (first
                          | (refine ldrow arrHouses _ rfl rfl _ rfl _ _ HX.out ?_)
                          | (go_at_call 24; refine (HJ1.out _ hB).mono ?_; rintro e w6 ⟨rfl, hb⟩; have hsz := hB.size; have HX := hid (heap_below hb HX.out (heap_lt HX.out)); have HBx := hid (heap_below hb HBx.out (heap_lt HBx.out)); have HY := hid (heap_below hb HY.out (heap_lt HY.out)); have hB := hB.trans (hb.mono (by omega)); clear HJ1))
                        go_cut [27, 15] from 243 to 253 (fun u v wc => u = .int .i64 ((jj : Nat) : Int) ∧ v = .int .i64 0 ∧ Below w6.heap.size w6 wc)
                        case first => as_aux_lemma =>
                            have hS0 : Below w6.heap.size w6 w6.drew := ⟨rfl, rfl, rfl, Nat.le_refl _, fun _ _ => rfl⟩
                            have HBS := hid hB
                            have HSZ := hid hB.size
                            clear hB
                            refine regD (fun V => Below w6.heap.size w6 V) (fun _ => true) (by kernel_rfl) ?_
                            refine takeE (i := 0) (.agg (irow 12 (cst kk))) (d := some 244) rfl (by kernel_rfl) (by kernel_rfl) (by kernel_rfl) (by kernel_rfl) (fun _ _ _ h => h) rfl (fun W hW => by exact exec_ldrow arrHouses rfl rfl (heap_below hW HY.out (heap_lt HY.out))) hS0 rfl ?_
                            simp only [Act.put, List.setIfInBounds_toArray, List.set_cons_zero, List.set_cons_succ]
                            refine takeE (i := 1) (.func (.func 21) #[] #[.pointer (some ⟨kb, 0, none⟩)]) (d := some 245) rfl (by kernel_rfl) (by kernel_rfl) (by kernel_rfl) (by kernel_rfl) (fun _ _ _ h => h) rfl (fun W hW => by rfl) hS0 rfl ?_
                            simp only [Act.put, List.setIfInBounds_toArray, List.set_cons_zero, List.set_cons_succ]
                            refine takeE (i := 2) (.int .i64 ai) (d := some 246) rfl (by kernel_rfl) (by kernel_rfl) (by kernel_rfl) (by kernel_rfl) (fun _ _ _ h => h) rfl (fun W hW => by rfl) hS0 rfl ?_
                            simp only [Act.put, List.setIfInBounds_toArray, List.set_cons_zero, List.set_cons_succ]
                            refine takeE (i := 4) (.func (.func 21) #[] #[.pointer (some ⟨kb, 0, none⟩)]) (d := some 248) rfl (by kernel_rfl) (by kernel_rfl) (by kernel_rfl) (by kernel_rfl) (fun _ _ _ h => h) rfl (fun W hW => by rfl) hS0 rfl ?_
                            simp only [Act.put, List.setIfInBounds_toArray, List.set_cons_zero, List.set_cons_succ]
                            refine takeE (i := 5) (.int .i64 bi) (d := some 249) rfl (by kernel_rfl) (by kernel_rfl) (by kernel_rfl) (by kernel_rfl) (fun _ _ _ h => h) rfl (fun W hW => by rfl) hS0 rfl ?_
                            simp only [Act.put, List.setIfInBounds_toArray, List.set_cons_zero, List.set_cons_succ]
                            refine stepD 3 (by kernel_rfl) rfl rfl (fun K hK => ?_)
                            go_simp
                            go_at_call 21
                            refine (HOA.out kb _ (show w6.drew.heap[kb]? = _ from HBx.out)).mono ?_
                            rintro e V1 ⟨rfl, rfl⟩
                            go_simp
                            refine hK _ _ (fun _ => hS0) ?_
                            clear hK K
                            refine stepD 6 (by kernel_rfl) rfl rfl (fun K hK => ?_)
                            go_simp
                            go_at_call 21
                            refine (HOB.out kb _ (show w6.drew.heap[kb]? = _ from HBx.out)).mono ?_
                            rintro e V1 ⟨rfl, rfl⟩
                            go_simp
                            refine hK _ _ (fun _ => hS0) ?_
                            clear hK K
                            refine stepD 7 (by kernel_rfl) rfl rfl (fun K hK => ?_)
                            go_simp
                            go_at_call 24
                            refine (HJ2.out _ (HBS.out.trans (hS0.mono (by have := HSZ.out; omega)))).mono ?_
                            rintro e V4 ⟨rfl, hb⟩
                            have hS4 := hS0.trans hb
                            go_simp
                            refine hK _ _ (fun _ => hS4) ?_
                            clear hK K
                            refine stepD 8 (by kernel_rfl) rfl rfl (fun K hK => ?_)
                            go_simp
                            refine hK _ _ (fun _ => hS4) ?_
                            clear hK K
                            refine takeE (i := 9) (.int .i64 ((jj : Nat) : Int)) (d := some 252) rfl (by kernel_rfl) (by kernel_rfl) (by kernel_rfl) (by kernel_rfl) (fun _ _ _ h => h) rfl (fun W hW => by rfl) hS4 rfl ?_
                            simp only [Act.put, List.setIfInBounds_toArray, List.set_cons_zero, List.set_cons_succ]
                            refine takeE (i := 10) (.int .i64 0) (d := some 253) rfl (by kernel_rfl) (by kernel_rfl) (by kernel_rfl) (by kernel_rfl) (fun _ _ _ h => h) rfl (fun W hW => by rfl) hS4 rfl ?_
                            simp only [Act.put, List.setIfInBounds_toArray, List.set_cons_zero, List.set_cons_succ]
                            refine takeE (i := 11) (.int .i64 ((jj : Nat) : Int)) (d := some 27) rfl (by kernel_rfl) (by kernel_rfl) (by kernel_rfl) (by kernel_rfl) (fun _ _ _ h => h) rfl (fun W hW => by rfl) hS4 rfl ?_
                            simp only [Act.put, List.setIfInBounds_toArray, List.set_cons_zero, List.set_cons_succ]
                            refine takeE (i := 12) (.int .i64 0) (d := some 15) rfl (by kernel_rfl) (by kernel_rfl) (by kernel_rfl) (by kernel_rfl) (fun _ _ _ h => h) rfl (fun W hW => by rfl) hS4 rfl ?_
                            simp only [Act.put, List.setIfInBounds_toArray, List.set_cons_zero, List.set_cons_succ]
                            refine doneD (by kernel_rfl) ?_ _
                            refine OnlyNorm.normal ?_
                            go_step
                            go_step
                            go_meet
                            case rel => exact ⟨rfl, rfl, hS4⟩
                        case rest =>
                          obtain ⟨rfl, rfl, hb⟩ := hcut
                          have hsz := hB.size; have HX := hid (heap_below hb HX.out (heap_lt HX.out)); have HBx := hid (heap_below hb HBx.out (heap_lt HBx.out)); have HY := hid (heap_below hb HY.out (heap_lt HY.out)); have hB := hB.trans (hb.mono (by omega))
                          clear HJ2 hb
                          go_wp2_with (first
                            | (refine ldrow arrHouses _ rfl rfl _ rfl _ _ HX.out ?_)
                            | (refine ldrow arrHouses _ rfl rfl _ rfl _ _ HY.out ?_)
                            | (go_at_call 25; refine (HF1.out _).mono ?_; rintro e w7 ⟨rfl, hb⟩; have hsz := hB.size; have HX := hid (heap_below hb HX.out (heap_lt HX.out)); have HBx := hid (heap_below hb HBx.out (heap_lt HBx.out)); have HY := hid (heap_below hb HY.out (heap_lt HY.out)); have hB := hB.trans (hb.mono (by omega)); clear HF1)
                            | (go_at_call 25; refine (HF2.out _).mono ?_; rintro e w8 ⟨rfl, hb⟩; have hsz := hB.size; have HX := hid (heap_below hb HX.out (heap_lt HX.out)); have HBx := hid (heap_below hb HBx.out (heap_lt HBx.out)); have HY := hid (heap_below hb HY.out (heap_lt HY.out)); have hB := hB.trans (hb.mono (by omega)); clear HF2)
                            | (go_at_call 15; refine (HK.out _ hB).mono ?_; rintro e w9 ⟨rfl, hb⟩; have hsz := hB.size; have hB := hB.trans (hb.mono (by omega))))
                          go_ret
                          exact ⟨rfl, hg ▸ hB⟩
end Go.Proofs.YtcdbkgpgjjeoiaaDoor
