/- Lemmas for WitnessDraws: part 22. -/
import Derived.Test.YtbcileppebpamaaGreatDoorKb21
set_option linter.unusedSimpArgs false
set_option linter.unusedVariables false
namespace Go.Proofs.YtbcileppebpamaaGreatDoor
open Go Go.RowKit Go.Shelf
set_option maxRecDepth 100000
set_option maxHeartbeats 4000000 in
theorem read_open (w0 W : World) (L : LaidW w0) (hW : Below w0.heap.size w0 W) (B1 z : Nat) (h0 : w0.heap.size ≤ z) (hz : z < B1) (hB1 : B1 ≤ W.heap.size) (bl n : Nat) (ls : List RL) (hst : RdAt W B1 z (some (bl, n, ls))) (hls : ls.length ≤ 900000) (l : List UInt8) (hl : l.length ≤ 100000) (hm : ∃ m, W.cell? ⟨2, 0, none⟩ = some (.int .i64 m)) (x y t : List UInt8) (hws : wordsL 32 l = [wOp, x, y, t]) :
    Calls Tryz.prog 45 #[.pointer (some ⟨z, 0, none⟩), .string ⟨l.toArray⟩] W fun e W' => e = .returned (.int .i64 (readT (some (bl, n, ls)) l).2) ∧ OnlyR B1 z W W' ∧ RdAt W' B1 z (readT (some (bl, n, ls)) l).1 := by
  have HSP := hid (split_l l (by omega) W hm)
  have hwl := wordsL_mem 32 l
  have hR := readT_some bl n ls l
  rw [hws] at HSP hwl hR
  have hx := heap_alloc_new W (.cells ((bas ([wOp, x, y, t])).map Value.string).toArray 9)
  have hal : Below W.heap.size W (W.alloc (.cells ((bas ([wOp, x, y, t])).map Value.string).toArray 9)) := (Below.refl _ _).alloc (Nat.le_refl _) _
  obtain ⟨W1, hW1⟩ : ∃ W1, W.alloc (.cells ((bas ([wOp, x, y, t])).map Value.string).toArray 9) = W1 := ⟨_, rfl⟩
  rw [hW1] at hx hal HSP
  obtain ⟨g, hg⟩ : ∃ g, W.heap.size = g := ⟨_, rfl⟩
  have hst1 := hst.below hal
  obtain ⟨⟨hbl, hn⟩, B, b, q, D, hz1, hd1, hRl, hB1B, hBb, hBq, hBs⟩ := hst1
  have hcz := cell_of_row _ _ 0 _ _ _ hz1
  have hOa : OnlyR B1 z W W1 := .below hal
  rw [hg] at hx hal HSP hB1
  have hg1 : g < W1.heap.size := heap_lt hx
  have hc0 : W1.cell? ⟨g, 0, none⟩ = some (.string ⟨(wOp).toArray⟩) := by
    rw [cell_of_row _ _ 0 _ _ (0, 0) hx]
    simp [bas]
  obtain ⟨A0, hA0⟩ : ∃ A : ByteArray, ⟨(wOp).toArray⟩ = A := ⟨_, rfl⟩
  have hA0l : A0.toList = wOp := by rw [← hA0, ByteArray.toList_eq]
  have hA0d : A0.data.toList = wOp := by rw [← hA0]
  rw [hA0] at hc0
  have hc1 : W1.cell? ⟨g, 1, none⟩ = some (.string ⟨(x).toArray⟩) := by
    rw [cell_of_row _ _ 1 _ _ (0, 0) hx]
    simp [bas]
  obtain ⟨X, hX⟩ : ∃ A : ByteArray, ⟨(x).toArray⟩ = A := ⟨_, rfl⟩
  have hXl : X.toList = x := by rw [← hX, ByteArray.toList_eq]
  have hXd : X.data.toList = x := by rw [← hX]
  rw [hX] at hc1
  have hc2 : W1.cell? ⟨g, 2, none⟩ = some (.string ⟨(y).toArray⟩) := by
    rw [cell_of_row _ _ 2 _ _ (0, 0) hx]
    simp [bas]
  obtain ⟨Y, hY⟩ : ∃ A : ByteArray, ⟨(y).toArray⟩ = A := ⟨_, rfl⟩
  have hYl : Y.toList = y := by rw [← hY, ByteArray.toList_eq]
  have hYd : Y.data.toList = y := by rw [← hY]
  rw [hY] at hc2
  have hc3 : W1.cell? ⟨g, 3, none⟩ = some (.string ⟨(t).toArray⟩) := by
    rw [cell_of_row _ _ 3 _ _ (0, 0) hx]
    simp [bas]
  obtain ⟨T, hT⟩ : ∃ A : ByteArray, ⟨(t).toArray⟩ = A := ⟨_, rfl⟩
  have hTl : T.toList = t := by rw [← hT, ByteArray.toList_eq]
  have hTd : T.data.toList = t := by rw [← hT]
  rw [hT] at hc3
  have hxs : X.size ≤ 1000000 := by rw [size_data, hXd]; have := hwl x (by simp); omega
  have hys : Y.size ≤ 1000000 := by rw [size_data, hYd]; have := hwl y (by simp); omega
  have hts : T.size ≤ 1000000 := by rw [size_data, hTd]; have := hwl t (by simp); omega
  have q1 : A0.toList = [111, 112, 101, 110] := hA0l
  have hrd : ReadsT W1 (.slice (some ⟨g, 1, none⟩) 2 3) [X, Y] := by
    have := reads_bas (o := 1) (c := 3) [wOp, x, y, t] [x, y] hx (fun k x hk => by
      rcases k with _ | _ | k
      · simpa using hk
      · simpa using hk
      · simp at hk)
    simpa [bas, hX, hY] using this
  have hss : ∀ s ∈ [X, Y], s.size ≤ 1000000 := by
    intro s hs
    rcases List.mem_cons.1 hs with rfl | hs
    · exact hxs
    · rw [List.mem_singleton.1 hs]; exact hys
  rw [show ([wOp, x, y, t] : List (List UInt8)).length = 4 from rfl] at HSP
  have HO1 := hid hOa
  have HZ1 := hid hz1
  have HD1 := hid hd1
  have HN := hid (And.intro hbl (And.intro hn (And.intro hB1B (And.intro hBb (And.intro hBq hBs)))))
  have HG1 := hid (And.intro hg hg1)
  have HL := hid (fun V (hV : OnlyR B1 z W V) => fun V' (hV' : Below B V V') => L.below ((hW.trans (hV.toB h0 (by omega) (by have := hW.size; omega))).trans (hV'.mono (by omega))))
  have HRL := hid hRl
  cases hb : numB x && numB y with
  | false =>
    have hE : readT (some (bl, n, ls)) l = (some (bl, n, ls), 4) := by rw [hR, lineW, if_neg]; rintro ⟨_, ⟨h1, h2⟩, _⟩; rw [h1, h2] at hb; cases hb
    rw [hE]
    have HNU := hid (numbers_no _ [X, Y] W1 hrd (by simp) hss (by simpa [numBb, hXd, hYd] using hb))
    clear hb hxs hys hts hrd hss hA0l hA0d hX hXl hXd hY hYl hYd hT hTl hTd hbl hn hE hR hW1 hx hm hst hal hOa hA0 hws hl hwl hz1 hd1 hRl hB1B hBb hBq hBs hg1
    go_enter Tryz.func45, Tryz.ntmps45
    go_wp2_with (first
      | (go_at_call 26; refine HSP.out.mono ?_; rintro e w1 ⟨rfl, rfl⟩)
      | (go_at_call 78; refine HNU.out.mono ?_; rintro e w2 ⟨rfl, hb2⟩; have HB2 := hid hb2; clear hb2))
    go_ret
    exact ⟨rfl, HO1.out.trans (.below HB2.out), (show RdAt w1 B1 z (some (bl, n, ls)) from ⟨⟨HN.out.1, HN.out.2.1⟩, B, b, q, D, HZ1.out, HD1.out, HRL.out, HN.out.2.2.1, HN.out.2.2.2.1, HN.out.2.2.2.2.1, HN.out.2.2.2.2.2⟩).below HB2.out⟩
  | true =>
    have HNU := hid (numbers_yes _ [X, Y] W1 hrd (by simp) (by simp) hss (by simpa [numBb, hXd, hYd] using hb))
    obtain ⟨nx, hnx⟩ : ∃ nx, numN x = nx := ⟨_, rfl⟩
    obtain ⟨ny, hny⟩ : ∃ ny, numN y = ny := ⟨_, rfl⟩
    have hnb : numBn X = ((nx : Nat) : Int) ∧ numBn Y = ((ny : Nat) : Int) := ⟨by rw [numBn, hXd, hnx], by rw [numBn, hYd, hny]⟩
    have HIS := hid (fun V => isSalt_c T hts V)
    rw [hTd] at HIS
    have hb2 : numB x = true ∧ numB y = true := by simpa using hb
    cases hh : isSaltL t with
    | false =>
      have hE : readT (some (bl, n, ls)) l = (some (bl, n, ls), 4) := by rw [hR, lineW, if_neg]; rintro ⟨_, _, h1⟩; rw [hh] at h1; cases h1
      rw [hE]
      rw [hh] at HIS
      clear hb hxs hys hts hrd hss hA0l hA0d hX hXl hXd hY hYl hYd hT hTl hTd hbl hn hE hh hnx hny hnb hb2 hR hW1 hx hm hst hal hOa hA0 hws hl hwl hz1 hd1 hRl hB1B hBb hBq hBs hg1
      go_enter Tryz.func45, Tryz.ntmps45
      go_wp2_with (first
        | (go_at_call 26; refine HSP.out.mono ?_; rintro e w1 ⟨rfl, rfl⟩)
        | (go_at_call 78; refine HNU.out.mono ?_; rintro e w2 ⟨⟨gu, cu, cur, rfl, hgu, hcur, hgg⟩, hb2⟩; have HB2 := hid hb2; clear hb2 hgu hcur hgg; have hc3' := (HB2.out.cell (p := ⟨g, 3, none⟩) HG1.out.2).trans hc3)
        | (go_at_call 39; refine (HIS.out _).mono ?_; rintro e w3 ⟨rfl, hb3⟩; have HB3 := hid (HB2.out.trans (hb3.mono HB2.out.size)); clear hb3))
      go_ret
      exact ⟨rfl, HO1.out.trans (.below HB3.out), (show RdAt w1 B1 z (some (bl, n, ls)) from ⟨⟨HN.out.1, HN.out.2.1⟩, B, b, q, D, HZ1.out, HD1.out, HRL.out, HN.out.2.2.1, HN.out.2.2.2.1, HN.out.2.2.2.2.1, HN.out.2.2.2.2.2⟩).below HB3.out⟩
    | true =>
      rw [lineW, if_pos ⟨rfl, hb2, hh⟩, hnx, hny, hT] at hR
      simp only at hR
      rw [hh] at HIS
      rw [hR, ← hRl.openE _ _ ⟨#[]⟩ T]
      have HRA := hid (hRl.openA ((nx : Nat) : Int) ((ny : Nat) : Int) ⟨#[]⟩ T)
      have HSD := hid (fun V (hV : OnlyR B1 z W V) (hs : B ≤ V.heap.size) (hd : DrawAt V B b q D) => OpenD_c hd ((nx : Nat) : Int) ((ny : Nat) : Int) T hs hBb hBq (HL.out V hV) (by rw [hRl.len]; exact hn.2) (by rw [hRl.below]; exact hbl.2) hts (by rw [hRl.lsl]; omega) (by rw [hRl.op]; have := cntL_le 2 ls n; omega))
      have HLT := hid (And.intro (show b < W1.heap.size by obtain ⟨vl, h1, _⟩ := hd1.box; exact heap_lt h1) (And.intro (heap_lt hd1.row) (heap_lt hz1)))
      have HNB := hid hnb
      clear hb hxs hys hts hrd hss hA0l hA0d hX hXl hXd hY hYl hYd hT hTl hTd hbl hn hh hnx hny hnb hb2 hR hW1 hx hm hst hal hOa hA0 hws hl hwl hz1 hd1 hRl hB1B hBb hBq hBs hg1
      go_enter Tryz.func45, Tryz.ntmps45
      go_upto_region 17 with (first
        | (go_at_call 26; refine HSP.out.mono ?_; rintro e w1 ⟨rfl, rfl⟩)
        | (go_at_call 78; refine HNU.out.mono ?_; rintro e w2 ⟨⟨gu, cu, cur, rfl, hgu, hcur, hgg⟩, hb2⟩; have HB2 := hid hb2; have HGU := hid (And.intro hgu (And.intro ((hcur 0 X rfl).trans (by rw [HNB.out.1])) (And.intro ((hcur 1 Y rfl).trans (by rw [HNB.out.2])) hgg))); clear hb2 hgu hcur hgg; have hc3' := (HB2.out.cell (p := ⟨g, 3, none⟩) HG1.out.2).trans hc3)
        | (go_at_call 39; refine (HIS.out _).mono ?_; rintro e w3 ⟨rfl, hb3⟩; have HB3 := hid (HB2.out.trans (hb3.mono HB2.out.size)); have HGU3 := hid (heap_below hb3 HGU.out.1 (heap_lt HGU.out.1)); clear hb3))
      have hc3s := (HB3.out.cell (p := ⟨g, 3, none⟩) HG1.out.2).trans hc3
      clear hc0 hc1 hc2 hc3 hc3' hcz
      refine regD (fun V => V.heap[z]? = some (.cells #[.pointer (some ⟨b, 0, none⟩)] 89 (0, 0)) ∧ V.heap[gu]? = some (.cells cur 3 (0, 0))) (fun _ => true) (by kernel_rfl) ?_
      have hS : w3.drew.heap[z]? = some (.cells #[.pointer (some ⟨b, 0, none⟩)] 89 (0, 0)) ∧ w3.drew.heap[gu]? = some (.cells cur 3 (0, 0)) := ⟨heap_below HB3.out HZ1.out (heap_lt HZ1.out), HGU3.out⟩
      have hbd : Below w3.heap.size w3 w3.drew := below_drewN (Below.refl _ _) 1
      have hb4 := HB3.out.trans (hbd.mono HB3.out.size)
      have hc4 : w3.drew.cell? ⟨g, 3, none⟩ = some (.string T) := hc3s
      clear hbd hc3s
      generalize w3.drew = w4 at hS hb4 hc4 ⊢
      refine takeE (i := 0) (.pointer (some ⟨z, 0, none⟩)) (d := some 116) rfl (by kernel_rfl) (by kernel_rfl) (by kernel_rfl) (by kernel_rfl) (fun _ _ _ h => h) rfl (fun W hSw => by exact exec_mv rfl rfl) (hS) rfl ?_
      simp only [Act.put, List.setIfInBounds_toArray, List.set_cons_zero, List.set_cons_succ]
      refine takeE (i := 1) (.pointer (some ⟨z, 0, none⟩)) (d := some 117) rfl (by kernel_rfl) (by kernel_rfl) (by kernel_rfl) (by kernel_rfl) (fun _ _ _ h => h) rfl (fun W hSw => by exact exec_nilP rfl rfl) (hS) rfl ?_
      simp only [Act.put, List.setIfInBounds_toArray, List.set_cons_zero, List.set_cons_succ]
      refine takeE (i := 2) (.pointer (some ⟨z, 0, none⟩)) (d := some 118) rfl (by kernel_rfl) (by kernel_rfl) (by kernel_rfl) (by kernel_rfl) (fun _ _ _ h => h) rfl (fun W hSw => by exact exec_fldR rfl rfl) (hS) rfl ?_
      simp only [Act.put, List.setIfInBounds_toArray, List.set_cons_zero, List.set_cons_succ]
      refine takeE (i := 3) (.pointer (some ⟨b, 0, none⟩)) (d := some 119) rfl (by kernel_rfl) (by kernel_rfl) (by kernel_rfl) (by kernel_rfl) (fun _ _ _ h => h) rfl (fun W hSw => by exact exec_ldPD rfl rfl (cell_of_row _ _ 0 _ _ _ hSw.1)) (hS) rfl ?_
      simp only [Act.put, List.setIfInBounds_toArray, List.set_cons_zero, List.set_cons_succ]
      refine takeE (i := 4) (.slice (some ⟨gu, 0, none⟩) 2 cu) (d := some 120) rfl (by kernel_rfl) (by kernel_rfl) (by kernel_rfl) (by kernel_rfl) (fun _ _ _ h => h) rfl (fun W hSw => by exact exec_mv rfl rfl) (hS) rfl ?_
      simp only [Act.put, List.setIfInBounds_toArray, List.set_cons_zero, List.set_cons_succ]
      refine takeE (i := 5) (.pointer (some ⟨gu, 0, none⟩)) (d := some 121) rfl (by kernel_rfl) (by kernel_rfl) (by kernel_rfl) (by kernel_rfl) (fun _ _ _ h => h) rfl (fun W hSw => by exact exec_ixI (oo := 0) (i := 0) rfl rfl rfl rfl (by omega)) (hS) rfl ?_
      simp only [Act.put, List.setIfInBounds_toArray, List.set_cons_zero, List.set_cons_succ]
      refine takeE (i := 6) (.int .i64 ((nx : Nat) : Int)) (d := some 122) rfl (by kernel_rfl) (by kernel_rfl) (by kernel_rfl) (by kernel_rfl) (fun _ _ _ h => h) rfl (fun W hSw => by exact exec_ldcellB rfl rfl ((cell_of_row _ _ 0 _ _ _ hSw.2).trans HGU.out.2.1)) (hS) rfl ?_
      simp only [Act.put, List.setIfInBounds_toArray, List.set_cons_zero, List.set_cons_succ]
      refine takeE (i := 7) (.slice (some ⟨gu, 0, none⟩) 2 cu) (d := some 123) rfl (by kernel_rfl) (by kernel_rfl) (by kernel_rfl) (by kernel_rfl) (fun _ _ _ h => h) rfl (fun W hSw => by exact exec_mv rfl rfl) (hS) rfl ?_
      simp only [Act.put, List.setIfInBounds_toArray, List.set_cons_zero, List.set_cons_succ]
      refine takeE (i := 8) (.pointer (some ⟨gu, 1, none⟩)) (d := some 124) rfl (by kernel_rfl) (by kernel_rfl) (by kernel_rfl) (by kernel_rfl) (fun _ _ _ h => h) rfl (fun W hSw => by exact exec_ixI (oo := 0) (i := 1) rfl rfl rfl rfl (by omega)) (hS) rfl ?_
      simp only [Act.put, List.setIfInBounds_toArray, List.set_cons_zero, List.set_cons_succ]
      refine takeE (i := 9) (.int .i64 ((ny : Nat) : Int)) (d := some 125) rfl (by kernel_rfl) (by kernel_rfl) (by kernel_rfl) (by kernel_rfl) (fun _ _ _ h => h) rfl (fun W hSw => by exact exec_ldcellB rfl rfl ((cell_of_row _ _ 1 _ _ _ hSw.2).trans HGU.out.2.2.1)) (hS) rfl ?_
      simp only [Act.put, List.setIfInBounds_toArray, List.set_cons_zero, List.set_cons_succ]
      refine takeE (i := 10) (.slice (some ⟨g, 0, none⟩) 4 4) (d := some 126) rfl (by kernel_rfl) (by kernel_rfl) (by kernel_rfl) (by kernel_rfl) (fun _ _ _ h => h) rfl (fun W hSw => by exact exec_mv rfl rfl) (hS) rfl ?_
      simp only [Act.put, List.setIfInBounds_toArray, List.set_cons_zero, List.set_cons_succ]
      refine takeE (i := 11) (.pointer (some ⟨g, 3, none⟩)) (d := some 127) rfl (by kernel_rfl) (by kernel_rfl) (by kernel_rfl) (by kernel_rfl) (fun _ _ _ h => h) rfl (fun W hSw => by exact exec_ixW (oo := 0) (i := 3) rfl rfl rfl (by omega)) (hS) rfl ?_
      simp only [Act.put, List.setIfInBounds_toArray, List.set_cons_zero, List.set_cons_succ]
      refine stepD 12 (by kernel_rfl) rfl rfl (fun K hK => ?_)
      refine wpO_val (.string T) (exec_ldstrB rfl rfl hc4) ?_
      refine hK _ _ (fun _ => hS) ?_
      clear hK K
      simp only [Act.put, List.setIfInBounds_toArray, List.set_cons_zero, List.set_cons_succ]
      refine stepD 13 (by kernel_rfl) rfl rfl (fun K hK => ?_)
      refine wpO_val (.agg #[.int .i64 ((nx : Nat) : Int), .int .i64 ((ny : Nat) : Int), .string T]) (exec_build rfl rfl rfl rfl) ?_
      refine hK _ _ (fun _ => hS) ?_
      clear hK K
      simp only [Act.put, List.setIfInBounds_toArray, List.set_cons_zero, List.set_cons_succ]
      have hO4 := HO1.out.trans (OnlyR.below (B1 := B1) (z := z) hb4)
      have hd4 := HD1.out.below hb4
      have hs4 : B ≤ w4.heap.size := Nat.le_trans HN.out.2.2.2.2.2 hb4.size
      refine stepD 14 (by kernel_rfl) rfl rfl (fun K hK => ?_)
      refine wpO_call 20 #[.pointer (some ⟨b, 0, none⟩), .agg #[.int .i64 ((nx : Nat) : Int), .int .i64 ((ny : Nat) : Int), .string T]] (exec_call2 rfl rfl rfl rfl (by go_simp)) ((HSD.out w4 hO4 hs4 hd4).mono ?_)
      rintro e w5 ⟨he, hd5, ho5⟩
      refine ⟨_, he, ?_⟩
      have hS5 : w5.heap[z]? = some (.cells #[.pointer (some ⟨b, 0, none⟩)] 89 (0, 0)) ∧ w5.heap[gu]? = some (.cells cur 3 (0, 0)) := ⟨ho5.block z _ hS.1 (by have := HN.out; omega) (by have := HN.out; omega) (.inr rfl), ho5.block gu _ hS.2 (by have := HLT.out; have := HGU.out.2.2.2; omega) (by have := HLT.out; have := HGU.out.2.2.2; omega) (.inr rfl)⟩
      refine hK _ _ (fun _ => hS5) ?_
      clear hK K he
      have hO5 := hO4.trans (.only ho5 hd4 HN.out.2.2.1 HN.out.2.2.2.1 HN.out.2.2.2.2.1)
      have hs5 := Nat.le_trans hs4 ho5.size
      clear hO4 hd4 hs4 ho5 hS hc4 hb4
      simp only [Act.put, List.setIfInBounds_toArray, List.set_cons_zero, List.set_cons_succ]
      obtain ⟨eo, heo⟩ : ∃ eo, D.openE ((nx : Nat) : Int) ((ny : Nat) : Int) T = eo := ⟨_, rfl⟩
      obtain ⟨ro, hro⟩ : ∃ ro, (if eo = 0 then D.openR ((nx : Nat) : Int) ((ny : Nat) : Int) T else false) = ro := ⟨_, rfl⟩
      rw [heo, hro]
      have HEO := hid heo
      clear heo hro
      refine stepD 15 (by kernel_rfl) rfl rfl (fun K hK => ?_)
      refine wpO_val (.tuple #[.bool ro, .int .i64 eo]) (exec_mv rfl rfl) ?_
      refine hK _ _ (fun _ => hS5) ?_
      clear hK K
      simp only [Act.put, List.setIfInBounds_toArray, List.set_cons_zero, List.set_cons_succ]
      refine takeE (i := 16) (.bool ro) (d := some 131) rfl (by kernel_rfl) (by kernel_rfl) (by kernel_rfl) (by kernel_rfl) (fun _ _ _ h => h) rfl (fun W hSw => by exact exec_ext rfl rfl rfl) (hS5) rfl ?_
      simp only [Act.put, List.setIfInBounds_toArray, List.set_cons_zero, List.set_cons_succ]
      refine takeE (i := 17) (.int .i64 eo) (d := some 132) rfl (by kernel_rfl) (by kernel_rfl) (by kernel_rfl) (by kernel_rfl) (fun _ _ _ h => h) rfl (fun W hSw => by exact exec_ext rfl rfl rfl) (hS5) rfl ?_
      simp only [Act.put, List.setIfInBounds_toArray, List.set_cons_zero, List.set_cons_succ]
      refine stepD 18 (by kernel_rfl) rfl rfl (fun K hK => ?_)
      go_simp
      refine hK _ _ (fun _ => hS5) ?_
      clear hK K
      refine doneD (by kernel_rfl) ?_ _
      refine OnlyNorm.normal ?_
      rename_i K hK
      change K _ _
      refine hK _ _ ?_
      clear hK K
      go_wp2_with fail
      go_ret
      exact ⟨by rw [HEO.out]; rfl, hO5, ⟨HN.out.1, HN.out.2.1⟩, B, b, q, D.open ((nx : Nat) : Int) ((ny : Nat) : Int) T, hS5.1, hd5, HRA.out, HN.out.2.2.1, HN.out.2.2.2.1, HN.out.2.2.2.2.1, hs5⟩
/-- The reader reads a line. -/
theorem read_c (w0 W : World) (L : LaidW w0) (hW : Below w0.heap.size w0 W) (B1 z : Nat) (h0 : w0.heap.size ≤ z) (hz : z < B1) (hB1 : B1 ≤ W.heap.size) (st : Option St) (hst : RdAt W B1 z st) (hls : ∀ bl n ls, st = some (bl, n, ls) → ls.length ≤ 900000) (l : List UInt8) (hl : l.length ≤ 100000) (hm : ∃ m, W.cell? ⟨2, 0, none⟩ = some (.int .i64 m)) :
    Calls Tryz.prog 45 #[.pointer (some ⟨z, 0, none⟩), .string ⟨l.toArray⟩] W fun e W' => e = .returned (.int .i64 (readT st l).2) ∧ OnlyR B1 z W W' ∧ RdAt W' B1 z (readT st l).1 := by
  rcases st with _ | ⟨bl, n, ls⟩
  · exact read_none w0 W L hW B1 z h0 hz hB1 hst l hl hm
  · have hls' := hls bl n ls rfl
    obtain ⟨a0, r, hws⟩ := wordsL_form 32 l
    by_cases h3 : a0 = wCl ∧ r.length = 0
    · obtain ⟨rfl, hr⟩ := h3
      obtain rfl := List.eq_nil_of_length_eq_zero hr
      exact read_close w0 W L hW B1 z h0 hz hB1 bl n ls hst hls' l hl hm hws
    · by_cases h1 : a0 = wSe ∧ r.length = 2
      · obtain ⟨rfl, hr⟩ := h1
        rcases r with _ | ⟨x, _ | ⟨y, _ | ⟨t, r⟩⟩⟩
        · simp at hr
        · simp at hr
        · exact read_seal w0 W L hW B1 z h0 hz hB1 bl n ls hst hls' l hl hm x y hws
        · simp at hr
      · by_cases h2 : a0 = wOp ∧ r.length = 3
        · obtain ⟨rfl, hr⟩ := h2
          rcases r with _ | ⟨x, _ | ⟨y, _ | ⟨t, _ | ⟨u, r⟩⟩⟩⟩
          · simp at hr
          · simp at hr
          · simp at hr
          · exact read_open w0 W L hW B1 z h0 hz hB1 bl n ls hst hls' l hl hm x y t hws
          · simp at hr
        · exact read_other w0 W L hW B1 z h0 hz hB1 bl n ls hst hls' l hl hm a0 r hws (fun e h => h1 ⟨e, h⟩) (fun e h => h2 ⟨e, h⟩) (fun e h => h3 ⟨e, h⟩)
end Go.Proofs.YtbcileppebpamaaGreatDoor
set_option linter.unusedSimpArgs false
set_option linter.unusedVariables false
namespace Go.Proofs.YtbcileppebpamaaGreatDoor
open Go Go.RowKit Go.Shelf
set_option maxRecDepth 100000
def repZ : Array Value := #[.int .i64 0, .int .i64 0, .bool false, .int .i64 0, .slice none 0 0]
/-- The results' boxes of an audit. -/
structure Aud (w V : World) (g : Nat) (rep : Array Value) (k er : Int) : Prop where
  r : V.heap[g]? = some (.cells rep 37 (0, 0))
  l : V.heap[g + 1]? = some (.cells #[.int .i64 k] 3 (0, 0))
  e : V.heap[g + 2]? = some (.cells #[.int .i64 er] 31 (0, 0))
  b : Below g w V
  s : g + 5 ≤ V.heap.size
theorem Aud.keep {w V V' : World} {g : Nat} {rep : Array Value} {k er : Int} (h : Aud w V g rep k er) (hs : V.heap.size ≤ V'.heap.size) (ho : V'.os = V.os) (ht : V'.tape = V.tape) (hu : V'.output = V.output) (hk : ∀ j, j < g + 3 → V'.heap[j]? = V.heap[j]?) : Aud w V' g rep k er :=
  ⟨(hk _ (by omega)).trans h.r, (hk _ (by omega)).trans h.l, (hk _ (by omega)).trans h.e, ⟨ho.trans h.b.os, ht.trans h.b.tape, hu.trans h.b.output, Nat.le_trans h.b.size hs, fun j hj => (hk j (by omega)).trans (h.b.block j hj)⟩, Nat.le_trans h.s hs⟩
theorem Aud.below {w V V' : World} {g : Nat} {rep : Array Value} {k er : Int} (h : Aud w V g rep k er) (hb : Below V.heap.size V V') : Aud w V' g rep k er :=
  h.keep hb.size hb.os hb.tape hb.output fun j hj => hb.block j (by have := h.s; omega)
theorem Aud.onlyR {w V V' : World} {g : Nat} {rep : Array Value} {k er : Int} (h : Aud w V g rep k er) (ho : OnlyR (g + 5) (g + 3) V V') : Aud w V' g rep k er :=
  h.keep ho.size ho.os ho.tape ho.output fun j hj => by
    have hl : j < V.heap.size := by have := h.s; omega
    rw [Array.getElem?_eq_getElem hl]
    exact ho.block j _ (Array.getElem?_eq_getElem hl) (by omega) (.inl (by omega))
theorem Aud.set {w V : World} {g j i : Nat} {rep : Array Value} {k er : Int} {v : Value} (h : Aud w V g rep k er) (hj : g + 3 ≤ j) : Aud w (V.setCell ⟨j, i, none⟩ v) g rep k er :=
  h.keep (by simp) (by rfl) (by rfl) (by rfl) fun m hm => heap_setCell_other V ⟨j, i, none⟩ m v (by show m ≠ j; omega)
theorem Aud.setL {w V : World} {g : Nat} {rep : Array Value} {k er : Int} (h : Aud w V g rep k er) (k' : Int) : Aud w (V.setCell ⟨g + 1, 0, none⟩ (.int .i64 k')) g rep k' er :=
  ⟨(heap_setCell_other V ⟨g + 1, 0, none⟩ g _ (show g ≠ g + 1 by omega)).trans h.r, heap_setCell_same V (g + 1) 0 _ _ _ h.l, (heap_setCell_other V ⟨g + 1, 0, none⟩ (g + 2) _ (show g + 2 ≠ g + 1 by omega)).trans h.e, h.b.setCell (p := ⟨g + 1, 0, none⟩) (show g ≤ g + 1 by omega) _, by simpa using h.s⟩
theorem Aud.setE {w V : World} {g : Nat} {rep : Array Value} {k er : Int} (h : Aud w V g rep k er) (e' : Int) : Aud w (V.setCell ⟨g + 2, 0, none⟩ (.int .i64 e')) g rep k e' :=
  ⟨(heap_setCell_other V ⟨g + 2, 0, none⟩ g _ (show g ≠ g + 2 by omega)).trans h.r, (heap_setCell_other V ⟨g + 2, 0, none⟩ (g + 1) _ (show g + 1 ≠ g + 2 by omega)).trans h.l, heap_setCell_same V (g + 2) 0 _ _ _ h.e, h.b.setCell (p := ⟨g + 2, 0, none⟩) (show g ≤ g + 2 by omega) _, by simpa using h.s⟩
theorem setRow_self {W : World} {g : Nat} {cs : Array Value} {t : TypeId} {fr : Nat × Nat} (h : W.heap[g]? = some (.cells cs t fr)) : W.setRow g cs = W := by
  have e : (W.setRow g cs).heap = W.heap := by
    apply Array.ext_getElem?
    intro i
    by_cases hi : i = g
    · subst hi
      rw [setRow_at h, h]
    · exact setRow_ne hi
  cases W
  unfold World.setRow at e ⊢
  simp only at e ⊢
  rw [e]
theorem Aud.setR {w V : World} {g : Nat} {rep rep' : Array Value} {k er : Int} (h : Aud w V g rep k er) : Aud w (V.setRow g rep') g rep' k er :=
  ⟨setRow_at h.r, (setRow_ne (by omega)).trans h.l, (setRow_ne (by omega)).trans h.e, h.b.trans (setRow_below (Nat.le_refl g)), by simpa [World.setRow] using h.s⟩
theorem Aud.abd (B : Nat) (w : World) (g : Nat) (rep : Array Value) (k er : Int) (hw : g ≤ w.heap.size) (hB : g ≤ B) : Abd B fun V => Aud w V g rep k er :=
  ⟨fun _ _ h hb => h.below hb,
   fun W l r r' hl h hr => ⟨(World.putObj_heap_other (fun e => by subst e; have := h.r; rw [hr] at this; cases this)).trans h.r, (World.putObj_heap_other (fun e => by subst e; have := h.l; rw [hr] at this; cases this)).trans h.l, (World.putObj_heap_other (fun e => by subst e; have := h.e; rw [hr] at this; cases this)).trans h.e, (Abd.belowOf hw hB).turn W l r r' hl h.b hr, by simpa [World.putObj] using h.s⟩,
   fun W D hl h hr => ⟨(World.putObj_heap_other (fun e => by subst e; have := h.r; rw [hr] at this; cases this)).trans h.r, (World.putObj_heap_other (fun e => by subst e; have := h.l; rw [hr] at this; cases this)).trans h.l, (World.putObj_heap_other (fun e => by subst e; have := h.e; rw [hr] at this; cases this)).trans h.e, (Abd.belowOf hw hB).mark W D hl h.b hr, by simpa [World.putObj] using h.s⟩⟩
/-- A loop's own records beside the boxes. -/
theorem exec_ldRep {ev : Operand → Value} {o : Oper} {x : Operand} {g : Nat} {W : World} {cs : Array Value} (ho : o.op = .load 37 x) (hx : ev x = .pointer (some ⟨g, 0, none⟩)) (hg : W.heap[g]? = some (.cells cs 37 (0, 0))) (hc : cs.size = 5) : (execOp ev o).run Tryz.prog W = .ok (.value (.agg cs)) W := by
  have h := run_loadVar_row (P := Tryz.prog) W g 37 37 cs (0, 0) _ hg Tryz.underlying37 rfl (by rw [hc]; kernel_rfl)
  simp only [execOp, ho, hx, Instr.loadAt, Instr.sureAddr, Sem.run_bind, Sem.run_pure, Result.andThen_ok, h]
theorem wpListIn_stRep {F : Fence} {m : Nat} {ops : Array Oper} (hF : Lets F) {rest : List Oper} {o : Oper} {Q : Exit → Act → World → Prop} {a : Act} {w : World} (hgd : o.guard = none) (hd : ∀ c, o.op ≠ .defer c) (x y : Operand) (ho : o.op = .store 37 x y)
    (g : Nat) (cs old : Array Value) (hx : a.eval x = .pointer (some ⟨g, 0, none⟩)) (hy : a.eval y = .agg cs) (hg : w.heap[g]? = some (.cells old 37 (0, 0))) (hc : cs.size = 5) (hold : old.size = 5) (h1 : cs.all (·.oneCell') = true)
    (h : wpListIn F m Tryz.prog ops Q rest (a.put o.dst undef) (w.setRow g cs)) : wpListIn F m Tryz.prog ops Q (o :: rest) a w :=
  wpListIn_plain hgd fun K hK' => oper_in hF hd (fun _ _ h => h) (Q' := Q) (K := K) (wp_store_row 37 x y ho g cs hx hy _ old hg (by rw [hc]; kernel_rfl) (by rw [hold, hc]) h1 (hK' _ _ h))
theorem results_aud {fn : Func} {r q s : Tmp} (h : fn.results = #[.cell r 37, .cell q 3, .cell s 31]) {tmps : Array Value} {w W : World} {g : Nat} {rep : Array Value} {k er : Int} (hr : tmps.getD r undef = .pointer (some ⟨g, 0, none⟩)) (hq : tmps.getD q undef = .pointer (some ⟨g + 1, 0, none⟩)) (hs : tmps.getD s undef = .pointer (some ⟨g + 2, 0, none⟩)) (hA : Aud w W g rep k er) (hc : rep.size = 5) : (results fn tmps).run Tryz.prog W = .ok (.tuple #[.agg rep, .int .i64 k, .int .i64 er]) W := by
  have hl := run_loadVar_row (P := Tryz.prog) W g 37 37 rep (0, 0) _ hA.r Tryz.underlying37 rfl (by rw [hc]; kernel_rfl)
  have hr' : tmps[r]?.getD undef = .pointer (some ⟨g, 0, none⟩) := by simpa using hr
  have hq' : tmps[q]?.getD undef = .pointer (some ⟨g + 1, 0, none⟩) := by simpa using hq
  have hs' : tmps[s]?.getD undef = .pointer (some ⟨g + 2, 0, none⟩) := by simpa using hs
  have h1 := cell_of_row _ _ 0 _ _ _ hA.l
  have h2 := cell_of_row _ _ 0 _ _ _ hA.e
  simp [results, h, hr', hq', hs', asAddr, hl]
  go_simp
/-- Plain law. -/
theorem readT_ok (st : Option St) (x : List UInt8) (h : (readT st x).2 = 0) : ∃ s, (readT st x).1 = some s := by
  rcases st with _ | ⟨b, n, ls⟩
  · rw [readT_none] at h ⊢
    cases hf : firstW (wordsL 32 x) with
    | none => rw [hf] at h; simp at h
    | some p =>
      obtain ⟨b, n⟩ := p
      rw [hf] at h
      simp only at h ⊢
      by_cases hc : 1 ≤ b ∧ b ≤ 1000000000 ∧ 1 ≤ n ∧ n ≤ 30
      · rw [if_pos hc]; exact ⟨_, rfl⟩
      · rw [if_neg hc] at h; simp at h
  · rw [readT_some]
    cases lineW (wordsL 32 x) with
    | none => exact ⟨_, rfl⟩
    | some y => exact ⟨_, rfl⟩
theorem lineT_ok (st : Option St) (x : List UInt8) (h : (lineT st x).2 = 0) : ∃ s, (lineT st x).1 = some s := by
  unfold lineT at h ⊢
  by_cases hc : x.getLast? = some 10
  · rw [if_pos hc] at h ⊢
    exact readT_ok st _ h
  · rw [if_neg hc] at h
    simp at h
theorem goodT_some : ∀ (l : List (List UInt8)) (st s : Option St), goodT st l = some s → (l = [] ∧ s = st) ∨ ∃ t, s = some t
  | [], st, s, h => by cases h; exact .inl ⟨rfl, rfl⟩
  | x :: l, st, s, h => by
    rw [goodT] at h
    by_cases e : (lineT st x).2 = 0
    · rw [if_pos e] at h
      obtain ⟨t, ht⟩ := lineT_ok st x e
      rcases goodT_some l _ s h with ⟨_, h2⟩ | h2
      · exact .inr ⟨t, h2.trans ht⟩
      · exact .inr h2
    · rw [if_neg e] at h
      cases h
/-- How many lines there are. -/
theorem readT_len (st : Option St) (x : List UInt8) (k : Nat) (h : ∀ b n ls, st = some (b, n, ls) → ls.length ≤ k) : ∀ b n ls, (readT st x).1 = some (b, n, ls) → ls.length ≤ k + 1 := by
  intro b n ls he
  rcases st with _ | ⟨b', n', ls'⟩
  · rw [readT_none] at he
    cases hf : firstW (wordsL 32 x) with
    | none => rw [hf] at he; simp at he
    | some p =>
      obtain ⟨b2, n2⟩ := p
      rw [hf] at he
      simp only at he
      split at he
      · cases he; simp
      · cases he
  · have := h _ _ _ rfl
    rw [readT_some] at he
    cases hf : lineW (wordsL 32 x) with
    | none => rw [hf] at he; cases he; omega
    | some y =>
      rw [hf] at he
      cases he
      unfold addL
      split
      · simp; omega
      · omega
theorem goodT_len : ∀ (l : List (List UInt8)) (st s : Option St) (k : Nat), (∀ b n ls, st = some (b, n, ls) → ls.length ≤ k) → goodT st l = some s → ∀ b n ls, s = some (b, n, ls) → ls.length ≤ k + l.length
  | [], st, s, k, hk, h => by cases h; exact hk
  | x :: l, st, s, k, hk, h => by
    rw [goodT] at h
    by_cases e : (lineT st x).2 = 0
    · rw [if_pos e] at h
      have h2 := goodT_len l _ s (k + 1) (by
        unfold lineT
        by_cases hc : x.getLast? = some 10
        · rw [if_pos hc]; exact readT_len st _ k hk
        · rw [if_neg hc]; exact fun b n ls he => Nat.le_succ_of_le (hk b n ls he)) h
      intro b n ls he
      have := h2 b n ls he
      rw [List.length_cons]
      omega
    · rw [if_neg e] at h
      cases h
end Go.Proofs.YtbcileppebpamaaGreatDoor
