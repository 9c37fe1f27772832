/- Lemmas for WitnessAudits: part 21. -/
import Derived.Test.YtbcileppebpamaaGreatDoorKa20
set_option linter.unusedSimpArgs false
set_option linter.unusedVariables false
namespace Go.Proofs.YtbcileppebpamaaGreatDoor
open Go Go.RowKit Go.Shelf
set_option maxRecDepth 100000
set_option maxHeartbeats 4000000 in
theorem rread_open (l : List UInt8) (hl : l.length ≤ 100000) (hcl : l ≠ wCl) (w : World) (x y t : List UInt8) (hws : wordsL 32 l = [wOp, x, y, t]) :
    Calls Tryz.prog 49 #[.string ⟨l.toArray⟩] w fun e w' => LinR l e ∧ Below w.heap.size w w' := by
  have hwl := wordsL_mem 32 l
  have hRW := fun V => rwords_c l hl V
  have hln := line_w l
  rw [hws] at hwl hRW hln
  have hx := heap_alloc_new w (.cells #[.int .i64 0, .string ⟨#[]⟩, .int .i64 0, .int .i64 0, .string ⟨#[]⟩] 56)
  have hal : Below w.heap.size w (w.alloc (.cells #[.int .i64 0, .string ⟨#[]⟩, .int .i64 0, .int .i64 0, .string ⟨#[]⟩] 56)) := (Below.refl _ _).alloc (Nat.le_refl _) _
  obtain ⟨g, hg⟩ : ∃ g, w.heap.size = g := ⟨_, rfl⟩
  rw [hg] at hx hal
  have q0 : ((⟨l.toArray⟩ : ByteArray).toList == [99, 108, 111, 115, 101]) = false := by rw [ByteArray.toList_eq]; exact beq_eq_false_iff_ne.2 hcl
  obtain ⟨S, hS⟩ : ∃ S : ByteArray, ⟨l.toArray⟩ = S := ⟨_, rfl⟩
  rw [hS] at hRW q0
  rw [hS, hg]
  have HX := hid (And.intro hx hal)
  have HRW := hid hRW
  have HG := hid hg
  have HLN := hid hln
  obtain ⟨A0, hA0⟩ : ∃ A : ByteArray, ⟨(wOp).toArray⟩ = A := ⟨_, rfl⟩
  have hA0l : A0.toList = wOp := by rw [← hA0, ByteArray.toList_eq]
  have hA0d : A0.data.toList = wOp := by rw [← hA0]
  have HA0 := hid hA0
  obtain ⟨Xb, hXb⟩ : ∃ A : ByteArray, ⟨(x).toArray⟩ = A := ⟨_, rfl⟩
  have hXbl : Xb.toList = x := by rw [← hXb, ByteArray.toList_eq]
  have hXbd : Xb.data.toList = x := by rw [← hXb]
  have HXb := hid hXb
  obtain ⟨Yb, hYb⟩ : ∃ A : ByteArray, ⟨(y).toArray⟩ = A := ⟨_, rfl⟩
  have hYbl : Yb.toList = y := by rw [← hYb, ByteArray.toList_eq]
  have hYbd : Yb.data.toList = y := by rw [← hYb]
  have HYb := hid hYb
  obtain ⟨Tb, hTb⟩ : ∃ A : ByteArray, ⟨(t).toArray⟩ = A := ⟨_, rfl⟩
  have hTbl : Tb.toList = t := by rw [← hTb, ByteArray.toList_eq]
  have hTbd : Tb.data.toList = t := by rw [← hTb]
  have HTb := hid hTb
  have hnXb := fun V => rnumber_c x (by have := hwl x (by simp); omega) V
  obtain ⟨nx, hnx⟩ : ∃ v : Int, (if numB x = true then ((numN x : Nat) : Int) else 0) = v := ⟨_, rfl⟩
  obtain ⟨bx, hbx⟩ : ∃ b, numB x = b := ⟨_, rfl⟩
  rw [hnx, hbx, HXb.out] at hnXb
  have HNXb := hid hnXb
  have HVXb := hid (And.intro hnx hbx)
  clear hnXb
  have hnYb := fun V => rnumber_c y (by have := hwl y (by simp); omega) V
  obtain ⟨ny, hny⟩ : ∃ v : Int, (if numB y = true then ((numN y : Nat) : Int) else 0) = v := ⟨_, rfl⟩
  obtain ⟨by2, hby2⟩ : ∃ b, numB y = b := ⟨_, rfl⟩
  rw [hny, hby2, HYb.out] at hnYb
  have HNYb := hid hnYb
  have HVYb := hid (And.intro hny hby2)
  clear hnYb
  have q1 : A0.toList = [111, 112, 101, 110] := hA0l
  have hTs : Tb.size ≤ 1000000 := by rw [size_data, hTbd]; have := hwl t (by simp); omega
  have hhx := fun V => (rsalt_c Tb hTs V).mono fun e w' h => (show e = .returned (.bool (isSaltL Tb.data.toList)) ∧ V = w' from ⟨h.1, h.2.symm⟩)
  rw [hTbd] at hhx
  have HHX := hid hhx
  have FL0 := hid trivial
  clear hhx
  obtain ⟨hb, hhb⟩ : ∃ hb, isSaltL t = hb := ⟨_, rfl⟩
  rw [hhb] at HHX
  have HHB := hid hhb
  clear hhb
  clear hTs
  clear hRW hx hal hS hg hln hwl hws hcl hA0 hA0d hXb hXbd hYb hYbd hTb hTbd hA0l hXbl hYbl hTbl hnx hbx hny hby2
  cases bx with
  | false =>
    cases by2 with
    | false =>
      go_enter Tryz.func49, Tryz.ntmps49
      go_upto_region 1 with fail
      try rw [HG.out]
      generalize w.alloc (.cells #[.int .i64 0, .string ⟨#[]⟩, .int .i64 0, .int .i64 0, .string ⟨#[]⟩] 56) = W1 at HX ⊢
      go_upto_region 12 with (first
        | (go_at_call 47; refine (HRW.out _).mono ?_; rintro e w2 ⟨⟨v2, rfl, hv2⟩, hb2⟩; obtain ⟨gw, cw, cur, rfl, hgw, hcur, hcs⟩ := hv2.at' (by simp [bas]); rw [show (bas ([wOp, x, y, t])).length = 4 from by simp [bas]]; have hg2 := heap_below hb2 HX.out.1 (heap_lt HX.out.1); have HG2 := hid hg2; have HB2 := hid hb2; have HGW := hid hgw; have HCU := hid hcur; have hc0 : w2.cell? ⟨gw, 0, none⟩ = some (.string A0) := (cell_of_row _ _ 0 _ _ (0, 0) hcur).trans (hcs 0 A0 (by simp [bas, HA0.out])); have hc1 : w2.cell? ⟨gw, 1, none⟩ = some (.string Xb) := (cell_of_row _ _ 1 _ _ (0, 0) hcur).trans (hcs 1 Xb (by simp [bas, HXb.out])); have hc2 : w2.cell? ⟨gw, 2, none⟩ = some (.string Yb) := (cell_of_row _ _ 2 _ _ (0, 0) hcur).trans (hcs 2 Yb (by simp [bas, HYb.out])); have hc3 : w2.cell? ⟨gw, 3, none⟩ = some (.string Tb) := (cell_of_row _ _ 3 _ _ (0, 0) hcur).trans (hcs 3 Tb (by simp [bas, HTb.out])); clear hv2 hb2 hgw hcur hcs hg2)
        | (go_at_call 48; have hq := FL0; clear hq FL0; refine (HNXb.out _).mono ?_; rintro e w3 ⟨rfl, rfl⟩)
        | (go_at_call 48; refine (HNYb.out _).mono ?_; rintro e w3 ⟨rfl, rfl⟩))
      refine regD (fun V => V.heap[gw]? = some (.cells cur 9 (0, 0)) ∧ V.cell? ⟨gw, 3, none⟩ = some (.string Tb)) (fun _ => true) (by kernel_rfl) ?_
      have hS : w2.drew.heap[gw]? = some (.cells cur 9 (0, 0)) ∧ w2.drew.cell? ⟨gw, 3, none⟩ = some (.string Tb) := ⟨HCU.out, hc3⟩
      have hg3 : w2.drew.heap[g]? = _ := HG2.out
      have hb3 := HB2.out.trans ((show Below w2.heap.size w2 w2.drew from below_drewN (Below.refl _ _) 1).mono HB2.out.size)
      have hgw := HGW.out
      have hW1g := heap_lt HX.out.1
      clear hc0 hc1 hc2 hc3
      generalize w2.drew = w3 at hS hg3 hb3 ⊢
      refine takeE (i := 0) (.int .i64 nx) (d := some 64) rfl (by kernel_rfl) (by kernel_rfl) (by kernel_rfl) (by kernel_rfl) (fun _ _ _ h => h) rfl (fun W hSw => by exact exec_mv rfl rfl) (hS) rfl ?_
      simp only [Act.put, List.setIfInBounds_toArray, List.set_cons_zero, List.set_cons_succ]
      refine takeE (i := 1) (.int .i64 ny) (d := some 65) rfl (by kernel_rfl) (by kernel_rfl) (by kernel_rfl) (by kernel_rfl) (fun _ _ _ h => h) rfl (fun W hSw => by exact exec_mv rfl rfl) (hS) rfl ?_
      simp only [Act.put, List.setIfInBounds_toArray, List.set_cons_zero, List.set_cons_succ]
      refine takeE (i := 2) (.slice (some ⟨gw, 0, none⟩) 4 cw) (d := some 66) rfl (by kernel_rfl) (by kernel_rfl) (by kernel_rfl) (by kernel_rfl) (fun _ _ _ h => h) rfl (fun W hSw => by exact exec_mv rfl rfl) (hS) rfl ?_
      simp only [Act.put, List.setIfInBounds_toArray, List.set_cons_zero, List.set_cons_succ]
      refine takeE (i := 3) (.pointer (some ⟨gw, 3, none⟩)) (d := some 67) rfl (by kernel_rfl) (by kernel_rfl) (by kernel_rfl) (by kernel_rfl) (fun _ _ _ h => h) rfl (fun W hSw => by exact exec_ixW (oo := 0) (i := 3) rfl rfl rfl (by omega)) (hS) rfl ?_
      simp only [Act.put, List.setIfInBounds_toArray, List.set_cons_zero, List.set_cons_succ]
      refine takeE (i := 4) (.string Tb) (d := some 68) rfl (by kernel_rfl) (by kernel_rfl) (by kernel_rfl) (by kernel_rfl) (fun _ _ _ h => h) rfl (fun W hSw => by exact exec_ldstrB rfl rfl hSw.2) (hS) rfl ?_
      simp only [Act.put, List.setIfInBounds_toArray, List.set_cons_zero, List.set_cons_succ]
      refine takeE (i := 5) (.agg #[.int .i64 nx, .int .i64 ny, .string Tb]) (d := some 69) rfl (by kernel_rfl) (by kernel_rfl) (by kernel_rfl) (by kernel_rfl) (fun _ _ _ h => h) rfl (fun W hSw => by exact exec_build rfl rfl rfl rfl) (hS) rfl ?_
      simp only [Act.put, List.setIfInBounds_toArray, List.set_cons_zero, List.set_cons_succ]
      refine takeE (i := 6) (.agg #[.int .i64 2, .string ⟨#[]⟩, .int .i64 nx, .int .i64 ny, .string Tb]) (d := some 70) rfl (by kernel_rfl) (by kernel_rfl) (by kernel_rfl) (by kernel_rfl) (fun _ _ _ h => h) rfl (fun W hSw => by exact exec_buildL2 rfl rfl rfl) (hS) rfl ?_
      simp only [Act.put, List.setIfInBounds_toArray, List.set_cons_zero, List.set_cons_succ]
      refine takeE (i := 7) (.bool false) (d := some 71) rfl (by kernel_rfl) (by kernel_rfl) (by kernel_rfl) (by kernel_rfl) (fun _ _ _ h => h) rfl (fun W hSw => by exact exec_mv rfl rfl) (hS) rfl ?_
      simp only [Act.put, List.setIfInBounds_toArray, List.set_cons_zero, List.set_cons_succ]
      refine takeE (i := 8) (.bool false) (d := some 72) rfl (by kernel_rfl) (by kernel_rfl) (by kernel_rfl) (by kernel_rfl) (fun _ _ _ h => h) rfl (fun W hSw => by exact exec_mv rfl rfl) (hS) rfl ?_
      simp only [Act.put, List.setIfInBounds_toArray, List.set_cons_zero, List.set_cons_succ]
      refine takeN (i := 9) (d := some 73) rfl (by kernel_rfl) (by kernel_rfl) (by kernel_rfl) (by kernel_rfl) (fun _ _ _ h => h) (by kernel_rfl) (hS) rfl ?_
      simp only [Act.put, List.setIfInBounds_toArray, List.set_cons_zero, List.set_cons_succ]
      refine takeE (i := 10) (.bool false) (d := some 74) rfl (by kernel_rfl) (by kernel_rfl) (by kernel_rfl) (by kernel_rfl) (fun _ _ _ h => h) rfl (fun W hSw => by exact exec_pick rfl rfl rfl) (hS) rfl ?_
      simp only [Act.put, List.setIfInBounds_toArray, List.set_cons_zero, List.set_cons_succ]
      refine takeE (i := 11) (.bool false) (d := some 75) rfl (by kernel_rfl) (by kernel_rfl) (by kernel_rfl) (by kernel_rfl) (fun _ _ _ h => h) rfl (fun W hSw => by exact exec_mv rfl rfl) (hS) rfl ?_
      simp only [Act.put, List.setIfInBounds_toArray, List.set_cons_zero, List.set_cons_succ]
      refine takeN (i := 12) (d := some 76) rfl (by kernel_rfl) (by kernel_rfl) (by kernel_rfl) (by kernel_rfl) (fun _ _ _ h => h) (by kernel_rfl) (hS) rfl ?_
      simp only [Act.put, List.setIfInBounds_toArray, List.set_cons_zero, List.set_cons_succ]
      refine takeN (i := 13) (d := some 77) rfl (by kernel_rfl) (by kernel_rfl) (by kernel_rfl) (by kernel_rfl) (fun _ _ _ h => h) (by kernel_rfl) (hS) rfl ?_
      simp only [Act.put, List.setIfInBounds_toArray, List.set_cons_zero, List.set_cons_succ]
      refine takeN (i := 14) (d := some 78) rfl (by kernel_rfl) (by kernel_rfl) (by kernel_rfl) (by kernel_rfl) (fun _ _ _ h => h) (by kernel_rfl) (hS) rfl ?_
      simp only [Act.put, List.setIfInBounds_toArray, List.set_cons_zero, List.set_cons_succ]
      refine stepN 15 (by kernel_rfl) rfl (by kernel_rfl) (fun _ => hS) ?_
      simp only [Act.put, List.setIfInBounds_toArray, List.set_cons_zero, List.set_cons_succ]
      refine takeE (i := 16) (.bool false) (d := some 80) rfl (by kernel_rfl) (by kernel_rfl) (by kernel_rfl) (by kernel_rfl) (fun _ _ _ h => h) rfl (fun W hSw => by exact exec_pick rfl rfl rfl) (hS) rfl ?_
      simp only [Act.put, List.setIfInBounds_toArray, List.set_cons_zero, List.set_cons_succ]
      refine stepD 17 (by kernel_rfl) rfl rfl (fun K hK => ?_)
      refine wp_store_row 56 (.tmp 2) (.tmp 70) rfl g #[.int .i64 2, .string ⟨#[]⟩, .int .i64 nx, .int .i64 ny, .string Tb] rfl rfl _ #[.int .i64 0, .string ⟨#[]⟩, .int .i64 0, .int .i64 0, .string ⟨#[]⟩] hg3 (by kernel_rfl) rfl (line_one _ _ _ _ _) ?_
      have hS4 : (w3.setRow g #[.int .i64 2, .string ⟨#[]⟩, .int .i64 nx, .int .i64 ny, .string Tb]).heap[gw]? = some (.cells cur 9 (0, 0)) ∧ (w3.setRow g #[.int .i64 2, .string ⟨#[]⟩, .int .i64 nx, .int .i64 ny, .string Tb]).cell? ⟨gw, 3, none⟩ = some (.string Tb) := by
        have h1 := (setRow_ne (W := w3) (cs := #[.int .i64 2, .string ⟨#[]⟩, .int .i64 nx, .int .i64 ny, .string Tb]) (show gw ≠ g by omega)).trans hS.1
        exact ⟨h1, (cell_of_row _ _ 3 _ _ _ h1).trans ((cell_of_row _ _ 3 _ _ _ hS.1).symm.trans hS.2)⟩
      have hg4 := setRow_at (cs := #[.int .i64 2, .string ⟨#[]⟩, .int .i64 nx, .int .i64 ny, .string Tb]) hg3
      have hb4 := (HX.out.2.trans (hb3.mono (by omega))).trans (setRow_below (W := w3) (cs := #[.int .i64 2, .string ⟨#[]⟩, .int .i64 nx, .int .i64 ny, .string Tb]) (Nat.le_refl g))
      refine hK _ _ (fun _ => hS4) ?_
      clear hK K hg3 hb3 hS
      generalize w3.setRow g #[.int .i64 2, .string ⟨#[]⟩, .int .i64 nx, .int .i64 ny, .string Tb] = w5 at hS4 hg4 hb4 ⊢
      refine stepD 18 (by kernel_rfl) rfl rfl (fun K hK => ?_)
      go_simp
      refine hK _ _ (fun _ => hS4) ?_
      clear hK K hS4
      refine doneD (by kernel_rfl) ?_ _
      refine OnlyNorm.normal ?_
      rename_i K hK
      change K _ _
      refine hK _ _ ?_
      clear hK K
      go_wp2_with fail
      refine bodyPost_ret (results_lin Tryz.results49 rfl rfl hg4 rfl) rfl ⟨⟨⟨2, ⟨#[]⟩, nx, ny, Tb⟩, false, rfl, .inr ⟨rfl, ?_⟩⟩, hb4⟩
      rw [HLN.out, lineW, if_neg]
      rintro ⟨_, ⟨h3, _⟩, _⟩
      rw [HVXb.out.2] at h3
      cases h3
    | true =>
      go_enter Tryz.func49, Tryz.ntmps49
      go_upto_region 1 with fail
      try rw [HG.out]
      generalize w.alloc (.cells #[.int .i64 0, .string ⟨#[]⟩, .int .i64 0, .int .i64 0, .string ⟨#[]⟩] 56) = W1 at HX ⊢
      go_upto_region 12 with (first
        | (go_at_call 47; refine (HRW.out _).mono ?_; rintro e w2 ⟨⟨v2, rfl, hv2⟩, hb2⟩; obtain ⟨gw, cw, cur, rfl, hgw, hcur, hcs⟩ := hv2.at' (by simp [bas]); rw [show (bas ([wOp, x, y, t])).length = 4 from by simp [bas]]; have hg2 := heap_below hb2 HX.out.1 (heap_lt HX.out.1); have HG2 := hid hg2; have HB2 := hid hb2; have HGW := hid hgw; have HCU := hid hcur; have hc0 : w2.cell? ⟨gw, 0, none⟩ = some (.string A0) := (cell_of_row _ _ 0 _ _ (0, 0) hcur).trans (hcs 0 A0 (by simp [bas, HA0.out])); have hc1 : w2.cell? ⟨gw, 1, none⟩ = some (.string Xb) := (cell_of_row _ _ 1 _ _ (0, 0) hcur).trans (hcs 1 Xb (by simp [bas, HXb.out])); have hc2 : w2.cell? ⟨gw, 2, none⟩ = some (.string Yb) := (cell_of_row _ _ 2 _ _ (0, 0) hcur).trans (hcs 2 Yb (by simp [bas, HYb.out])); have hc3 : w2.cell? ⟨gw, 3, none⟩ = some (.string Tb) := (cell_of_row _ _ 3 _ _ (0, 0) hcur).trans (hcs 3 Tb (by simp [bas, HTb.out])); clear hv2 hb2 hgw hcur hcs hg2)
        | (go_at_call 48; have hq := FL0; clear hq FL0; refine (HNXb.out _).mono ?_; rintro e w3 ⟨rfl, rfl⟩)
        | (go_at_call 48; refine (HNYb.out _).mono ?_; rintro e w3 ⟨rfl, rfl⟩))
      refine regD (fun V => V.heap[gw]? = some (.cells cur 9 (0, 0)) ∧ V.cell? ⟨gw, 3, none⟩ = some (.string Tb)) (fun _ => true) (by kernel_rfl) ?_
      have hS : w2.drew.heap[gw]? = some (.cells cur 9 (0, 0)) ∧ w2.drew.cell? ⟨gw, 3, none⟩ = some (.string Tb) := ⟨HCU.out, hc3⟩
      have hg3 : w2.drew.heap[g]? = _ := HG2.out
      have hb3 := HB2.out.trans ((show Below w2.heap.size w2 w2.drew from below_drewN (Below.refl _ _) 1).mono HB2.out.size)
      have hgw := HGW.out
      have hW1g := heap_lt HX.out.1
      clear hc0 hc1 hc2 hc3
      generalize w2.drew = w3 at hS hg3 hb3 ⊢
      refine takeE (i := 0) (.int .i64 nx) (d := some 64) rfl (by kernel_rfl) (by kernel_rfl) (by kernel_rfl) (by kernel_rfl) (fun _ _ _ h => h) rfl (fun W hSw => by exact exec_mv rfl rfl) (hS) rfl ?_
      simp only [Act.put, List.setIfInBounds_toArray, List.set_cons_zero, List.set_cons_succ]
      refine takeE (i := 1) (.int .i64 ny) (d := some 65) rfl (by kernel_rfl) (by kernel_rfl) (by kernel_rfl) (by kernel_rfl) (fun _ _ _ h => h) rfl (fun W hSw => by exact exec_mv rfl rfl) (hS) rfl ?_
      simp only [Act.put, List.setIfInBounds_toArray, List.set_cons_zero, List.set_cons_succ]
      refine takeE (i := 2) (.slice (some ⟨gw, 0, none⟩) 4 cw) (d := some 66) rfl (by kernel_rfl) (by kernel_rfl) (by kernel_rfl) (by kernel_rfl) (fun _ _ _ h => h) rfl (fun W hSw => by exact exec_mv rfl rfl) (hS) rfl ?_
      simp only [Act.put, List.setIfInBounds_toArray, List.set_cons_zero, List.set_cons_succ]
      refine takeE (i := 3) (.pointer (some ⟨gw, 3, none⟩)) (d := some 67) rfl (by kernel_rfl) (by kernel_rfl) (by kernel_rfl) (by kernel_rfl) (fun _ _ _ h => h) rfl (fun W hSw => by exact exec_ixW (oo := 0) (i := 3) rfl rfl rfl (by omega)) (hS) rfl ?_
      simp only [Act.put, List.setIfInBounds_toArray, List.set_cons_zero, List.set_cons_succ]
      refine takeE (i := 4) (.string Tb) (d := some 68) rfl (by kernel_rfl) (by kernel_rfl) (by kernel_rfl) (by kernel_rfl) (fun _ _ _ h => h) rfl (fun W hSw => by exact exec_ldstrB rfl rfl hSw.2) (hS) rfl ?_
      simp only [Act.put, List.setIfInBounds_toArray, List.set_cons_zero, List.set_cons_succ]
      refine takeE (i := 5) (.agg #[.int .i64 nx, .int .i64 ny, .string Tb]) (d := some 69) rfl (by kernel_rfl) (by kernel_rfl) (by kernel_rfl) (by kernel_rfl) (fun _ _ _ h => h) rfl (fun W hSw => by exact exec_build rfl rfl rfl rfl) (hS) rfl ?_
      simp only [Act.put, List.setIfInBounds_toArray, List.set_cons_zero, List.set_cons_succ]
      refine takeE (i := 6) (.agg #[.int .i64 2, .string ⟨#[]⟩, .int .i64 nx, .int .i64 ny, .string Tb]) (d := some 70) rfl (by kernel_rfl) (by kernel_rfl) (by kernel_rfl) (by kernel_rfl) (fun _ _ _ h => h) rfl (fun W hSw => by exact exec_buildL2 rfl rfl rfl) (hS) rfl ?_
      simp only [Act.put, List.setIfInBounds_toArray, List.set_cons_zero, List.set_cons_succ]
      refine takeE (i := 7) (.bool false) (d := some 71) rfl (by kernel_rfl) (by kernel_rfl) (by kernel_rfl) (by kernel_rfl) (fun _ _ _ h => h) rfl (fun W hSw => by exact exec_mv rfl rfl) (hS) rfl ?_
      simp only [Act.put, List.setIfInBounds_toArray, List.set_cons_zero, List.set_cons_succ]
      refine takeE (i := 8) (.bool false) (d := some 72) rfl (by kernel_rfl) (by kernel_rfl) (by kernel_rfl) (by kernel_rfl) (fun _ _ _ h => h) rfl (fun W hSw => by exact exec_mv rfl rfl) (hS) rfl ?_
      simp only [Act.put, List.setIfInBounds_toArray, List.set_cons_zero, List.set_cons_succ]
      refine takeN (i := 9) (d := some 73) rfl (by kernel_rfl) (by kernel_rfl) (by kernel_rfl) (by kernel_rfl) (fun _ _ _ h => h) (by kernel_rfl) (hS) rfl ?_
      simp only [Act.put, List.setIfInBounds_toArray, List.set_cons_zero, List.set_cons_succ]
      refine takeE (i := 10) (.bool false) (d := some 74) rfl (by kernel_rfl) (by kernel_rfl) (by kernel_rfl) (by kernel_rfl) (fun _ _ _ h => h) rfl (fun W hSw => by exact exec_pick rfl rfl rfl) (hS) rfl ?_
      simp only [Act.put, List.setIfInBounds_toArray, List.set_cons_zero, List.set_cons_succ]
      refine takeE (i := 11) (.bool false) (d := some 75) rfl (by kernel_rfl) (by kernel_rfl) (by kernel_rfl) (by kernel_rfl) (fun _ _ _ h => h) rfl (fun W hSw => by exact exec_mv rfl rfl) (hS) rfl ?_
      simp only [Act.put, List.setIfInBounds_toArray, List.set_cons_zero, List.set_cons_succ]
      refine takeN (i := 12) (d := some 76) rfl (by kernel_rfl) (by kernel_rfl) (by kernel_rfl) (by kernel_rfl) (fun _ _ _ h => h) (by kernel_rfl) (hS) rfl ?_
      simp only [Act.put, List.setIfInBounds_toArray, List.set_cons_zero, List.set_cons_succ]
      refine takeN (i := 13) (d := some 77) rfl (by kernel_rfl) (by kernel_rfl) (by kernel_rfl) (by kernel_rfl) (fun _ _ _ h => h) (by kernel_rfl) (hS) rfl ?_
      simp only [Act.put, List.setIfInBounds_toArray, List.set_cons_zero, List.set_cons_succ]
      refine takeN (i := 14) (d := some 78) rfl (by kernel_rfl) (by kernel_rfl) (by kernel_rfl) (by kernel_rfl) (fun _ _ _ h => h) (by kernel_rfl) (hS) rfl ?_
      simp only [Act.put, List.setIfInBounds_toArray, List.set_cons_zero, List.set_cons_succ]
      refine stepN 15 (by kernel_rfl) rfl (by kernel_rfl) (fun _ => hS) ?_
      simp only [Act.put, List.setIfInBounds_toArray, List.set_cons_zero, List.set_cons_succ]
      refine takeE (i := 16) (.bool false) (d := some 80) rfl (by kernel_rfl) (by kernel_rfl) (by kernel_rfl) (by kernel_rfl) (fun _ _ _ h => h) rfl (fun W hSw => by exact exec_pick rfl rfl rfl) (hS) rfl ?_
      simp only [Act.put, List.setIfInBounds_toArray, List.set_cons_zero, List.set_cons_succ]
      refine stepD 17 (by kernel_rfl) rfl rfl (fun K hK => ?_)
      refine wp_store_row 56 (.tmp 2) (.tmp 70) rfl g #[.int .i64 2, .string ⟨#[]⟩, .int .i64 nx, .int .i64 ny, .string Tb] rfl rfl _ #[.int .i64 0, .string ⟨#[]⟩, .int .i64 0, .int .i64 0, .string ⟨#[]⟩] hg3 (by kernel_rfl) rfl (line_one _ _ _ _ _) ?_
      have hS4 : (w3.setRow g #[.int .i64 2, .string ⟨#[]⟩, .int .i64 nx, .int .i64 ny, .string Tb]).heap[gw]? = some (.cells cur 9 (0, 0)) ∧ (w3.setRow g #[.int .i64 2, .string ⟨#[]⟩, .int .i64 nx, .int .i64 ny, .string Tb]).cell? ⟨gw, 3, none⟩ = some (.string Tb) := by
        have h1 := (setRow_ne (W := w3) (cs := #[.int .i64 2, .string ⟨#[]⟩, .int .i64 nx, .int .i64 ny, .string Tb]) (show gw ≠ g by omega)).trans hS.1
        exact ⟨h1, (cell_of_row _ _ 3 _ _ _ h1).trans ((cell_of_row _ _ 3 _ _ _ hS.1).symm.trans hS.2)⟩
      have hg4 := setRow_at (cs := #[.int .i64 2, .string ⟨#[]⟩, .int .i64 nx, .int .i64 ny, .string Tb]) hg3
      have hb4 := (HX.out.2.trans (hb3.mono (by omega))).trans (setRow_below (W := w3) (cs := #[.int .i64 2, .string ⟨#[]⟩, .int .i64 nx, .int .i64 ny, .string Tb]) (Nat.le_refl g))
      refine hK _ _ (fun _ => hS4) ?_
      clear hK K hg3 hb3 hS
      generalize w3.setRow g #[.int .i64 2, .string ⟨#[]⟩, .int .i64 nx, .int .i64 ny, .string Tb] = w5 at hS4 hg4 hb4 ⊢
      refine stepD 18 (by kernel_rfl) rfl rfl (fun K hK => ?_)
      go_simp
      refine hK _ _ (fun _ => hS4) ?_
      clear hK K hS4
      refine doneD (by kernel_rfl) ?_ _
      refine OnlyNorm.normal ?_
      rename_i K hK
      change K _ _
      refine hK _ _ ?_
      clear hK K
      go_wp2_with fail
      refine bodyPost_ret (results_lin Tryz.results49 rfl rfl hg4 rfl) rfl ⟨⟨⟨2, ⟨#[]⟩, nx, ny, Tb⟩, false, rfl, .inr ⟨rfl, ?_⟩⟩, hb4⟩
      rw [HLN.out, lineW, if_neg]
      rintro ⟨_, ⟨h3, _⟩, _⟩
      rw [HVXb.out.2] at h3
      cases h3
  | true =>
    cases by2 with
    | false =>
      go_enter Tryz.func49, Tryz.ntmps49
      go_upto_region 1 with fail
      try rw [HG.out]
      generalize w.alloc (.cells #[.int .i64 0, .string ⟨#[]⟩, .int .i64 0, .int .i64 0, .string ⟨#[]⟩] 56) = W1 at HX ⊢
      go_upto_region 12 with (first
        | (go_at_call 47; refine (HRW.out _).mono ?_; rintro e w2 ⟨⟨v2, rfl, hv2⟩, hb2⟩; obtain ⟨gw, cw, cur, rfl, hgw, hcur, hcs⟩ := hv2.at' (by simp [bas]); rw [show (bas ([wOp, x, y, t])).length = 4 from by simp [bas]]; have hg2 := heap_below hb2 HX.out.1 (heap_lt HX.out.1); have HG2 := hid hg2; have HB2 := hid hb2; have HGW := hid hgw; have HCU := hid hcur; have hc0 : w2.cell? ⟨gw, 0, none⟩ = some (.string A0) := (cell_of_row _ _ 0 _ _ (0, 0) hcur).trans (hcs 0 A0 (by simp [bas, HA0.out])); have hc1 : w2.cell? ⟨gw, 1, none⟩ = some (.string Xb) := (cell_of_row _ _ 1 _ _ (0, 0) hcur).trans (hcs 1 Xb (by simp [bas, HXb.out])); have hc2 : w2.cell? ⟨gw, 2, none⟩ = some (.string Yb) := (cell_of_row _ _ 2 _ _ (0, 0) hcur).trans (hcs 2 Yb (by simp [bas, HYb.out])); have hc3 : w2.cell? ⟨gw, 3, none⟩ = some (.string Tb) := (cell_of_row _ _ 3 _ _ (0, 0) hcur).trans (hcs 3 Tb (by simp [bas, HTb.out])); clear hv2 hb2 hgw hcur hcs hg2)
        | (go_at_call 48; have hq := FL0; clear hq FL0; refine (HNXb.out _).mono ?_; rintro e w3 ⟨rfl, rfl⟩)
        | (go_at_call 48; refine (HNYb.out _).mono ?_; rintro e w3 ⟨rfl, rfl⟩))
      refine regD (fun V => V.heap[gw]? = some (.cells cur 9 (0, 0)) ∧ V.cell? ⟨gw, 3, none⟩ = some (.string Tb)) (fun _ => true) (by kernel_rfl) ?_
      have hS : w2.drew.heap[gw]? = some (.cells cur 9 (0, 0)) ∧ w2.drew.cell? ⟨gw, 3, none⟩ = some (.string Tb) := ⟨HCU.out, hc3⟩
      have hg3 : w2.drew.heap[g]? = _ := HG2.out
      have hb3 := HB2.out.trans ((show Below w2.heap.size w2 w2.drew from below_drewN (Below.refl _ _) 1).mono HB2.out.size)
      have hgw := HGW.out
      have hW1g := heap_lt HX.out.1
      clear hc0 hc1 hc2 hc3
      generalize w2.drew = w3 at hS hg3 hb3 ⊢
      refine takeE (i := 0) (.int .i64 nx) (d := some 64) rfl (by kernel_rfl) (by kernel_rfl) (by kernel_rfl) (by kernel_rfl) (fun _ _ _ h => h) rfl (fun W hSw => by exact exec_mv rfl rfl) (hS) rfl ?_
      simp only [Act.put, List.setIfInBounds_toArray, List.set_cons_zero, List.set_cons_succ]
      refine takeE (i := 1) (.int .i64 ny) (d := some 65) rfl (by kernel_rfl) (by kernel_rfl) (by kernel_rfl) (by kernel_rfl) (fun _ _ _ h => h) rfl (fun W hSw => by exact exec_mv rfl rfl) (hS) rfl ?_
      simp only [Act.put, List.setIfInBounds_toArray, List.set_cons_zero, List.set_cons_succ]
      refine takeE (i := 2) (.slice (some ⟨gw, 0, none⟩) 4 cw) (d := some 66) rfl (by kernel_rfl) (by kernel_rfl) (by kernel_rfl) (by kernel_rfl) (fun _ _ _ h => h) rfl (fun W hSw => by exact exec_mv rfl rfl) (hS) rfl ?_
      simp only [Act.put, List.setIfInBounds_toArray, List.set_cons_zero, List.set_cons_succ]
      refine takeE (i := 3) (.pointer (some ⟨gw, 3, none⟩)) (d := some 67) rfl (by kernel_rfl) (by kernel_rfl) (by kernel_rfl) (by kernel_rfl) (fun _ _ _ h => h) rfl (fun W hSw => by exact exec_ixW (oo := 0) (i := 3) rfl rfl rfl (by omega)) (hS) rfl ?_
      simp only [Act.put, List.setIfInBounds_toArray, List.set_cons_zero, List.set_cons_succ]
      refine takeE (i := 4) (.string Tb) (d := some 68) rfl (by kernel_rfl) (by kernel_rfl) (by kernel_rfl) (by kernel_rfl) (fun _ _ _ h => h) rfl (fun W hSw => by exact exec_ldstrB rfl rfl hSw.2) (hS) rfl ?_
      simp only [Act.put, List.setIfInBounds_toArray, List.set_cons_zero, List.set_cons_succ]
      refine takeE (i := 5) (.agg #[.int .i64 nx, .int .i64 ny, .string Tb]) (d := some 69) rfl (by kernel_rfl) (by kernel_rfl) (by kernel_rfl) (by kernel_rfl) (fun _ _ _ h => h) rfl (fun W hSw => by exact exec_build rfl rfl rfl rfl) (hS) rfl ?_
      simp only [Act.put, List.setIfInBounds_toArray, List.set_cons_zero, List.set_cons_succ]
      refine takeE (i := 6) (.agg #[.int .i64 2, .string ⟨#[]⟩, .int .i64 nx, .int .i64 ny, .string Tb]) (d := some 70) rfl (by kernel_rfl) (by kernel_rfl) (by kernel_rfl) (by kernel_rfl) (fun _ _ _ h => h) rfl (fun W hSw => by exact exec_buildL2 rfl rfl rfl) (hS) rfl ?_
      simp only [Act.put, List.setIfInBounds_toArray, List.set_cons_zero, List.set_cons_succ]
      refine takeE (i := 7) (.bool true) (d := some 71) rfl (by kernel_rfl) (by kernel_rfl) (by kernel_rfl) (by kernel_rfl) (fun _ _ _ h => h) rfl (fun W hSw => by exact exec_mv rfl rfl) (hS) rfl ?_
      simp only [Act.put, List.setIfInBounds_toArray, List.set_cons_zero, List.set_cons_succ]
      refine takeE (i := 8) (.bool true) (d := some 72) rfl (by kernel_rfl) (by kernel_rfl) (by kernel_rfl) (by kernel_rfl) (fun _ _ _ h => h) rfl (fun W hSw => by exact exec_mv rfl rfl) (hS) rfl ?_
      simp only [Act.put, List.setIfInBounds_toArray, List.set_cons_zero, List.set_cons_succ]
      refine takeY (i := 9) (.bool false) (d := some 73) rfl (by kernel_rfl) (by kernel_rfl) (by kernel_rfl) (by kernel_rfl) (fun _ _ _ h => h) (by kernel_rfl) (fun W hSw => by exact exec_mv rfl rfl) (hS) rfl ?_
      simp only [Act.put, List.setIfInBounds_toArray, List.set_cons_zero, List.set_cons_succ]
      refine takeE (i := 10) (.bool false) (d := some 74) rfl (by kernel_rfl) (by kernel_rfl) (by kernel_rfl) (by kernel_rfl) (fun _ _ _ h => h) rfl (fun W hSw => by exact exec_pick rfl rfl rfl) (hS) rfl ?_
      simp only [Act.put, List.setIfInBounds_toArray, List.set_cons_zero, List.set_cons_succ]
      refine takeE (i := 11) (.bool false) (d := some 75) rfl (by kernel_rfl) (by kernel_rfl) (by kernel_rfl) (by kernel_rfl) (fun _ _ _ h => h) rfl (fun W hSw => by exact exec_mv rfl rfl) (hS) rfl ?_
      simp only [Act.put, List.setIfInBounds_toArray, List.set_cons_zero, List.set_cons_succ]
      refine takeN (i := 12) (d := some 76) rfl (by kernel_rfl) (by kernel_rfl) (by kernel_rfl) (by kernel_rfl) (fun _ _ _ h => h) (by kernel_rfl) (hS) rfl ?_
      simp only [Act.put, List.setIfInBounds_toArray, List.set_cons_zero, List.set_cons_succ]
      refine takeN (i := 13) (d := some 77) rfl (by kernel_rfl) (by kernel_rfl) (by kernel_rfl) (by kernel_rfl) (fun _ _ _ h => h) (by kernel_rfl) (hS) rfl ?_
      simp only [Act.put, List.setIfInBounds_toArray, List.set_cons_zero, List.set_cons_succ]
      refine takeN (i := 14) (d := some 78) rfl (by kernel_rfl) (by kernel_rfl) (by kernel_rfl) (by kernel_rfl) (fun _ _ _ h => h) (by kernel_rfl) (hS) rfl ?_
      simp only [Act.put, List.setIfInBounds_toArray, List.set_cons_zero, List.set_cons_succ]
      refine stepN 15 (by kernel_rfl) rfl (by kernel_rfl) (fun _ => hS) ?_
      simp only [Act.put, List.setIfInBounds_toArray, List.set_cons_zero, List.set_cons_succ]
      refine takeE (i := 16) (.bool false) (d := some 80) rfl (by kernel_rfl) (by kernel_rfl) (by kernel_rfl) (by kernel_rfl) (fun _ _ _ h => h) rfl (fun W hSw => by exact exec_pick rfl rfl rfl) (hS) rfl ?_
      simp only [Act.put, List.setIfInBounds_toArray, List.set_cons_zero, List.set_cons_succ]
      refine stepD 17 (by kernel_rfl) rfl rfl (fun K hK => ?_)
      refine wp_store_row 56 (.tmp 2) (.tmp 70) rfl g #[.int .i64 2, .string ⟨#[]⟩, .int .i64 nx, .int .i64 ny, .string Tb] rfl rfl _ #[.int .i64 0, .string ⟨#[]⟩, .int .i64 0, .int .i64 0, .string ⟨#[]⟩] hg3 (by kernel_rfl) rfl (line_one _ _ _ _ _) ?_
      have hS4 : (w3.setRow g #[.int .i64 2, .string ⟨#[]⟩, .int .i64 nx, .int .i64 ny, .string Tb]).heap[gw]? = some (.cells cur 9 (0, 0)) ∧ (w3.setRow g #[.int .i64 2, .string ⟨#[]⟩, .int .i64 nx, .int .i64 ny, .string Tb]).cell? ⟨gw, 3, none⟩ = some (.string Tb) := by
        have h1 := (setRow_ne (W := w3) (cs := #[.int .i64 2, .string ⟨#[]⟩, .int .i64 nx, .int .i64 ny, .string Tb]) (show gw ≠ g by omega)).trans hS.1
        exact ⟨h1, (cell_of_row _ _ 3 _ _ _ h1).trans ((cell_of_row _ _ 3 _ _ _ hS.1).symm.trans hS.2)⟩
      have hg4 := setRow_at (cs := #[.int .i64 2, .string ⟨#[]⟩, .int .i64 nx, .int .i64 ny, .string Tb]) hg3
      have hb4 := (HX.out.2.trans (hb3.mono (by omega))).trans (setRow_below (W := w3) (cs := #[.int .i64 2, .string ⟨#[]⟩, .int .i64 nx, .int .i64 ny, .string Tb]) (Nat.le_refl g))
      refine hK _ _ (fun _ => hS4) ?_
      clear hK K hg3 hb3 hS
      generalize w3.setRow g #[.int .i64 2, .string ⟨#[]⟩, .int .i64 nx, .int .i64 ny, .string Tb] = w5 at hS4 hg4 hb4 ⊢
      refine stepD 18 (by kernel_rfl) rfl rfl (fun K hK => ?_)
      go_simp
      refine hK _ _ (fun _ => hS4) ?_
      clear hK K hS4
      refine doneD (by kernel_rfl) ?_ _
      refine OnlyNorm.normal ?_
      rename_i K hK
      change K _ _
      refine hK _ _ ?_
      clear hK K
      go_wp2_with fail
      refine bodyPost_ret (results_lin Tryz.results49 rfl rfl hg4 rfl) rfl ⟨⟨⟨2, ⟨#[]⟩, nx, ny, Tb⟩, false, rfl, .inr ⟨rfl, ?_⟩⟩, hb4⟩
      rw [HLN.out, lineW, if_neg]
      rintro ⟨_, ⟨_, h3⟩, _⟩
      rw [HVYb.out.2] at h3
      cases h3
    | true =>
      go_enter Tryz.func49, Tryz.ntmps49
      go_upto_region 1 with fail
      try rw [HG.out]
      generalize w.alloc (.cells #[.int .i64 0, .string ⟨#[]⟩, .int .i64 0, .int .i64 0, .string ⟨#[]⟩] 56) = W1 at HX ⊢
      go_upto_region 12 with (first
        | (go_at_call 47; refine (HRW.out _).mono ?_; rintro e w2 ⟨⟨v2, rfl, hv2⟩, hb2⟩; obtain ⟨gw, cw, cur, rfl, hgw, hcur, hcs⟩ := hv2.at' (by simp [bas]); rw [show (bas ([wOp, x, y, t])).length = 4 from by simp [bas]]; have hg2 := heap_below hb2 HX.out.1 (heap_lt HX.out.1); have HG2 := hid hg2; have HB2 := hid hb2; have HGW := hid hgw; have HCU := hid hcur; have hc0 : w2.cell? ⟨gw, 0, none⟩ = some (.string A0) := (cell_of_row _ _ 0 _ _ (0, 0) hcur).trans (hcs 0 A0 (by simp [bas, HA0.out])); have hc1 : w2.cell? ⟨gw, 1, none⟩ = some (.string Xb) := (cell_of_row _ _ 1 _ _ (0, 0) hcur).trans (hcs 1 Xb (by simp [bas, HXb.out])); have hc2 : w2.cell? ⟨gw, 2, none⟩ = some (.string Yb) := (cell_of_row _ _ 2 _ _ (0, 0) hcur).trans (hcs 2 Yb (by simp [bas, HYb.out])); have hc3 : w2.cell? ⟨gw, 3, none⟩ = some (.string Tb) := (cell_of_row _ _ 3 _ _ (0, 0) hcur).trans (hcs 3 Tb (by simp [bas, HTb.out])); clear hv2 hb2 hgw hcur hcs hg2)
        | (go_at_call 48; have hq := FL0; clear hq FL0; refine (HNXb.out _).mono ?_; rintro e w3 ⟨rfl, rfl⟩)
        | (go_at_call 48; refine (HNYb.out _).mono ?_; rintro e w3 ⟨rfl, rfl⟩))
      refine regD (fun V => V.heap[gw]? = some (.cells cur 9 (0, 0)) ∧ V.cell? ⟨gw, 3, none⟩ = some (.string Tb)) (fun _ => true) (by kernel_rfl) ?_
      have hS : w2.drew.heap[gw]? = some (.cells cur 9 (0, 0)) ∧ w2.drew.cell? ⟨gw, 3, none⟩ = some (.string Tb) := ⟨HCU.out, hc3⟩
      have hg3 : w2.drew.heap[g]? = _ := HG2.out
      have hb3 := HB2.out.trans ((show Below w2.heap.size w2 w2.drew from below_drewN (Below.refl _ _) 1).mono HB2.out.size)
      have hgw := HGW.out
      have hW1g := heap_lt HX.out.1
      clear hc0 hc1 hc2 hc3
      generalize w2.drew = w3 at hS hg3 hb3 ⊢
      refine takeE (i := 0) (.int .i64 nx) (d := some 64) rfl (by kernel_rfl) (by kernel_rfl) (by kernel_rfl) (by kernel_rfl) (fun _ _ _ h => h) rfl (fun W hSw => by exact exec_mv rfl rfl) (hS) rfl ?_
      simp only [Act.put, List.setIfInBounds_toArray, List.set_cons_zero, List.set_cons_succ]
      refine takeE (i := 1) (.int .i64 ny) (d := some 65) rfl (by kernel_rfl) (by kernel_rfl) (by kernel_rfl) (by kernel_rfl) (fun _ _ _ h => h) rfl (fun W hSw => by exact exec_mv rfl rfl) (hS) rfl ?_
      simp only [Act.put, List.setIfInBounds_toArray, List.set_cons_zero, List.set_cons_succ]
      refine takeE (i := 2) (.slice (some ⟨gw, 0, none⟩) 4 cw) (d := some 66) rfl (by kernel_rfl) (by kernel_rfl) (by kernel_rfl) (by kernel_rfl) (fun _ _ _ h => h) rfl (fun W hSw => by exact exec_mv rfl rfl) (hS) rfl ?_
      simp only [Act.put, List.setIfInBounds_toArray, List.set_cons_zero, List.set_cons_succ]
      refine takeE (i := 3) (.pointer (some ⟨gw, 3, none⟩)) (d := some 67) rfl (by kernel_rfl) (by kernel_rfl) (by kernel_rfl) (by kernel_rfl) (fun _ _ _ h => h) rfl (fun W hSw => by exact exec_ixW (oo := 0) (i := 3) rfl rfl rfl (by omega)) (hS) rfl ?_
      simp only [Act.put, List.setIfInBounds_toArray, List.set_cons_zero, List.set_cons_succ]
      refine takeE (i := 4) (.string Tb) (d := some 68) rfl (by kernel_rfl) (by kernel_rfl) (by kernel_rfl) (by kernel_rfl) (fun _ _ _ h => h) rfl (fun W hSw => by exact exec_ldstrB rfl rfl hSw.2) (hS) rfl ?_
      simp only [Act.put, List.setIfInBounds_toArray, List.set_cons_zero, List.set_cons_succ]
      refine takeE (i := 5) (.agg #[.int .i64 nx, .int .i64 ny, .string Tb]) (d := some 69) rfl (by kernel_rfl) (by kernel_rfl) (by kernel_rfl) (by kernel_rfl) (fun _ _ _ h => h) rfl (fun W hSw => by exact exec_build rfl rfl rfl rfl) (hS) rfl ?_
      simp only [Act.put, List.setIfInBounds_toArray, List.set_cons_zero, List.set_cons_succ]
      refine takeE (i := 6) (.agg #[.int .i64 2, .string ⟨#[]⟩, .int .i64 nx, .int .i64 ny, .string Tb]) (d := some 70) rfl (by kernel_rfl) (by kernel_rfl) (by kernel_rfl) (by kernel_rfl) (fun _ _ _ h => h) rfl (fun W hSw => by exact exec_buildL2 rfl rfl rfl) (hS) rfl ?_
      simp only [Act.put, List.setIfInBounds_toArray, List.set_cons_zero, List.set_cons_succ]
      refine takeE (i := 7) (.bool true) (d := some 71) rfl (by kernel_rfl) (by kernel_rfl) (by kernel_rfl) (by kernel_rfl) (fun _ _ _ h => h) rfl (fun W hSw => by exact exec_mv rfl rfl) (hS) rfl ?_
      simp only [Act.put, List.setIfInBounds_toArray, List.set_cons_zero, List.set_cons_succ]
      refine takeE (i := 8) (.bool true) (d := some 72) rfl (by kernel_rfl) (by kernel_rfl) (by kernel_rfl) (by kernel_rfl) (fun _ _ _ h => h) rfl (fun W hSw => by exact exec_mv rfl rfl) (hS) rfl ?_
      simp only [Act.put, List.setIfInBounds_toArray, List.set_cons_zero, List.set_cons_succ]
      refine takeY (i := 9) (.bool true) (d := some 73) rfl (by kernel_rfl) (by kernel_rfl) (by kernel_rfl) (by kernel_rfl) (fun _ _ _ h => h) (by kernel_rfl) (fun W hSw => by exact exec_mv rfl rfl) (hS) rfl ?_
      simp only [Act.put, List.setIfInBounds_toArray, List.set_cons_zero, List.set_cons_succ]
      refine takeE (i := 10) (.bool true) (d := some 74) rfl (by kernel_rfl) (by kernel_rfl) (by kernel_rfl) (by kernel_rfl) (fun _ _ _ h => h) rfl (fun W hSw => by exact exec_pick rfl rfl rfl) (hS) rfl ?_
      simp only [Act.put, List.setIfInBounds_toArray, List.set_cons_zero, List.set_cons_succ]
      refine takeE (i := 11) (.bool true) (d := some 75) rfl (by kernel_rfl) (by kernel_rfl) (by kernel_rfl) (by kernel_rfl) (fun _ _ _ h => h) rfl (fun W hSw => by exact exec_mv rfl rfl) (hS) rfl ?_
      simp only [Act.put, List.setIfInBounds_toArray, List.set_cons_zero, List.set_cons_succ]
      refine takeY (i := 12) (.slice (some ⟨gw, 0, none⟩) 4 cw) (d := some 76) rfl (by kernel_rfl) (by kernel_rfl) (by kernel_rfl) (by kernel_rfl) (fun _ _ _ h => h) (by kernel_rfl) (fun W hSw => by exact exec_mv rfl rfl) (hS) rfl ?_
      simp only [Act.put, List.setIfInBounds_toArray, List.set_cons_zero, List.set_cons_succ]
      refine takeY (i := 13) (.pointer (some ⟨gw, 3, none⟩)) (d := some 77) rfl (by kernel_rfl) (by kernel_rfl) (by kernel_rfl) (by kernel_rfl) (fun _ _ _ h => h) (by kernel_rfl) (fun W hSw => by exact exec_ixW (oo := 0) (i := 3) rfl rfl rfl (by omega)) (hS) rfl ?_
      simp only [Act.put, List.setIfInBounds_toArray, List.set_cons_zero, List.set_cons_succ]
      refine takeY (i := 14) (.string Tb) (d := some 78) rfl (by kernel_rfl) (by kernel_rfl) (by kernel_rfl) (by kernel_rfl) (fun _ _ _ h => h) (by kernel_rfl) (fun W hSw => by exact exec_ldstrB rfl rfl hSw.2) (hS) rfl ?_
      simp only [Act.put, List.setIfInBounds_toArray, List.set_cons_zero, List.set_cons_succ]
      refine stepY 15 (by kernel_rfl) rfl (by kernel_rfl) (fun K hK => ?_)
      refine wpO_call 33 #[.string Tb] (exec_call1 rfl rfl rfl (by go_simp)) ((HHX.out w3).mono ?_)
      rintro e w4 ⟨he, hw4⟩
      subst hw4
      refine ⟨_, he, ?_⟩
      refine hK _ _ (fun _ => hS) ?_
      clear hK K he
      simp only [Act.put, List.setIfInBounds_toArray, List.set_cons_zero, List.set_cons_succ]
      refine takeE (i := 16) (.bool hb) (d := some 80) rfl (by kernel_rfl) (by kernel_rfl) (by kernel_rfl) (by kernel_rfl) (fun _ _ _ h => h) rfl (fun W hSw => by exact exec_pick rfl rfl rfl) (hS) rfl ?_
      simp only [Act.put, List.setIfInBounds_toArray, List.set_cons_zero, List.set_cons_succ]
      refine stepD 17 (by kernel_rfl) rfl rfl (fun K hK => ?_)
      refine wp_store_row 56 (.tmp 2) (.tmp 70) rfl g #[.int .i64 2, .string ⟨#[]⟩, .int .i64 nx, .int .i64 ny, .string Tb] rfl rfl _ #[.int .i64 0, .string ⟨#[]⟩, .int .i64 0, .int .i64 0, .string ⟨#[]⟩] hg3 (by kernel_rfl) rfl (line_one _ _ _ _ _) ?_
      have hS4 : (w3.setRow g #[.int .i64 2, .string ⟨#[]⟩, .int .i64 nx, .int .i64 ny, .string Tb]).heap[gw]? = some (.cells cur 9 (0, 0)) ∧ (w3.setRow g #[.int .i64 2, .string ⟨#[]⟩, .int .i64 nx, .int .i64 ny, .string Tb]).cell? ⟨gw, 3, none⟩ = some (.string Tb) := by
        have h1 := (setRow_ne (W := w3) (cs := #[.int .i64 2, .string ⟨#[]⟩, .int .i64 nx, .int .i64 ny, .string Tb]) (show gw ≠ g by omega)).trans hS.1
        exact ⟨h1, (cell_of_row _ _ 3 _ _ _ h1).trans ((cell_of_row _ _ 3 _ _ _ hS.1).symm.trans hS.2)⟩
      have hg4 := setRow_at (cs := #[.int .i64 2, .string ⟨#[]⟩, .int .i64 nx, .int .i64 ny, .string Tb]) hg3
      have hb4 := (HX.out.2.trans (hb3.mono (by omega))).trans (setRow_below (W := w3) (cs := #[.int .i64 2, .string ⟨#[]⟩, .int .i64 nx, .int .i64 ny, .string Tb]) (Nat.le_refl g))
      refine hK _ _ (fun _ => hS4) ?_
      clear hK K hg3 hb3 hS
      generalize w3.setRow g #[.int .i64 2, .string ⟨#[]⟩, .int .i64 nx, .int .i64 ny, .string Tb] = w5 at hS4 hg4 hb4 ⊢
      refine stepD 18 (by kernel_rfl) rfl rfl (fun K hK => ?_)
      go_simp
      refine hK _ _ (fun _ => hS4) ?_
      clear hK K hS4
      refine doneD (by kernel_rfl) ?_ _
      refine OnlyNorm.normal ?_
      rename_i K hK
      change K _ _
      refine hK _ _ ?_
      clear hK K
      go_wp2_with fail
      refine bodyPost_ret (results_lin Tryz.results49 rfl rfl hg4 rfl) rfl ⟨⟨⟨2, ⟨#[]⟩, nx, ny, Tb⟩, hb, rfl, ?_⟩, hb4⟩
      cases hb with
      | false => exact .inr ⟨rfl, by rw [HLN.out, lineW, if_neg]; rintro ⟨_, _, h3⟩; rw [HHB.out] at h3; cases h3⟩
      | true => exact .inl ⟨rfl, by rw [HLN.out, lineW, if_pos ⟨rfl, ⟨HVXb.out.2, HVYb.out.2⟩, HHB.out⟩, HTb.out, ← HVXb.out.1, ← HVYb.out.1, if_pos HVXb.out.2, if_pos HVYb.out.2]⟩
/-- The reference reads a line. -/
theorem rread_c (l : List UInt8) (hl : l.length ≤ 100000) (w : World) :
    Calls Tryz.prog 49 #[.string ⟨l.toArray⟩] w fun e w' => LinR l e ∧ Below w.heap.size w w' := by
  by_cases hcl : l = wCl
  · subst hcl
    exact rread_close w
  · obtain ⟨a0, r, hws⟩ := wordsL_form 32 l
    rcases r with _ | ⟨x, _ | ⟨y, _ | ⟨t, _ | ⟨u, r⟩⟩⟩⟩
    · exact rread_1 l hl hcl w a0 hws
    · exact rread_2 l hl hcl w a0 x hws
    · by_cases h0 : a0 = wSe
      · subst h0
        exact rread_seal l hl hcl w x y hws
      · exact rread_3 l hl hcl w a0 x y hws h0
    · by_cases h0 : a0 = wOp
      · subst h0
        exact rread_open l hl hcl w x y t hws
      · exact rread_4 l hl hcl w a0 x y t hws h0
    · exact rread_5 l hl hcl w a0 x y t u r hws
end Go.Proofs.YtbcileppebpamaaGreatDoor
set_option linter.unusedSimpArgs false
set_option linter.unusedVariables false
namespace Go.Proofs.YtbcileppebpamaaGreatDoor
open Go Go.RowKit Go.Shelf
set_option maxRecDepth 100000
/-- What a drawing's lines are. -/
def GoodS (b n : Nat) (ls : List RL) : Prop := ((1 ≤ b ∧ b ≤ 1000000000) ∧ (1 ≤ n ∧ n ≤ 30)) ∧ ∃ D, Rel b n D ls
theorem lineW_kind {ws : List (List UInt8)} {x : RL} (h : lineW ws = some x) : (x.k = 3 ∧ x.p = 0) ∨ x.k = 1 ∨ x.k = 2 := by
  rcases ws with _ | ⟨a, _ | ⟨b, _ | ⟨c, _ | ⟨d, _ | ⟨e, r⟩⟩⟩⟩⟩
  · simp [lineW] at h
  · rw [lineW] at h
    split at h
    · cases h; exact .inl ⟨rfl, rfl⟩
    · cases h
  · simp [lineW] at h
  · rw [lineW] at h
    split at h
    · cases h; exact .inr (.inl rfl)
    · cases h
  · rw [lineW] at h
    split at h
    · cases h; exact .inr (.inr rfl)
    · cases h
  · simp [lineW] at h
theorem lineW_size {ws : List (List UInt8)} {x : RL} {m : Nat} (h : lineW ws = some x) (hm : ∀ w ∈ ws, w.length ≤ m) : x.h.size ≤ m ∧ x.s.size ≤ m := by
  have hs : ∀ l : List UInt8, (⟨l.toArray⟩ : ByteArray).size = l.length := fun l => by show l.toArray.size = _; simp
  have h0 : (⟨#[]⟩ : ByteArray).size = 0 := rfl
  rcases ws with _ | ⟨a, _ | ⟨b, _ | ⟨c, _ | ⟨d, _ | ⟨e, r⟩⟩⟩⟩⟩
  · simp [lineW] at h
  · rw [lineW] at h
    split at h
    · cases h; simp only [h0]; omega
    · cases h
  · simp [lineW] at h
  · rw [lineW] at h
    split at h
    · cases h; simp only [h0, hs]; exact ⟨hm c (by simp), Nat.zero_le _⟩
    · cases h
  · rw [lineW] at h
    split at h
    · cases h; simp only [h0, hs]; exact ⟨Nat.zero_le _, hm d (by simp)⟩
    · cases h
  · simp [lineW] at h
theorem GoodS.add {b n : Nat} {ls : List RL} (h : GoodS b n ls) (x : RL) (hx : (x.k = 3 ∧ x.p = 0) ∨ x.k = 1 ∨ x.k = 2) : GoodS b n (addL b n ls x) := by
  obtain ⟨h0, D, hR⟩ := h
  obtain ⟨k, hh, p, v, s⟩ := x
  rcases hx with ⟨h1, h2⟩ | h1 | h1
  · simp only at h1 h2
    subst h1 h2
    exact ⟨h0, _, hR.closeA v hh s⟩
  · simp only at h1
    subst h1
    exact ⟨h0, _, hR.sealA p hh v s⟩
  · simp only at h1
    subst h1
    exact ⟨h0, _, hR.openA p v hh s⟩
theorem readT_good (st : Option St) (x : List UInt8) (h : ∀ b n ls, st = some (b, n, ls) → GoodS b n ls) : ∀ b n ls, (readT st x).1 = some (b, n, ls) → GoodS b n ls := by
  intro b n ls he
  rcases st with _ | ⟨b', n', ls'⟩
  · rw [readT_none] at he
    cases hf : firstW (wordsL 32 x) with
    | none => rw [hf] at he; simp at he
    | some p =>
      obtain ⟨b2, n2⟩ := p
      rw [hf] at he
      simp only at he
      split at he
      · rename_i hc
        cases he
        exact ⟨⟨⟨hc.1, hc.2.1⟩, hc.2.2⟩, _, Rel.start _ _ (by omega)⟩
      · cases he
  · have := h _ _ _ rfl
    rw [readT_some] at he
    cases hf : lineW (wordsL 32 x) with
    | none => rw [hf] at he; cases he; exact this
    | some y =>
      rw [hf] at he
      cases he
      exact this.add y (lineW_kind hf)
theorem lineT_good (st : Option St) (x : List UInt8) (h : ∀ b n ls, st = some (b, n, ls) → GoodS b n ls) : ∀ b n ls, (lineT st x).1 = some (b, n, ls) → GoodS b n ls := by
  unfold lineT
  split
  · exact readT_good st _ h
  · exact h
theorem goodT_good : ∀ (l : List (List UInt8)) (st s : Option St), (∀ b n ls, st = some (b, n, ls) → GoodS b n ls) → goodT st l = some s → ∀ b n ls, s = some (b, n, ls) → GoodS b n ls
  | [], st, s, hk, h => by cases h; exact hk
  | x :: l, st, s, hk, h => by
    rw [goodT] at h
    by_cases e : (lineT st x).2 = 0
    · rw [if_pos e] at h
      exact goodT_good l _ s (lineT_good st x hk) h
    · rw [if_neg e] at h
      cases h
theorem GoodS.okB {b n : Nat} {ls : List RL} (h : GoodS b n ls) : OkB ls := by
  obtain ⟨h0, D, hR⟩ := h
  intro y hy hk
  rcases hR.fit y hy with ⟨h1, _⟩ | ⟨_, h2, h3, h4⟩ | ⟨h1, _⟩
  · omega
  · exact ⟨by omega, by omega, h4⟩
  · omega
/-- Add of the reference, whatever is read. -/
theorem radd_c (b n : Nat) (hb2 : b ≤ 1000000000) (hn : n ≤ 1000) (v : Value) (ls : List RL) (x : RL) (hk : x.k = 3 ∨ x.k = 1 ∨ x.k = 2) (W : World) (hr : ReadsL W v ls) (hl : ls.length ≤ 100000) (hsz : x.h.size ≤ 1000000) (hss : x.s.size ≤ 1000000) :
    Calls Tryz.prog 19 #[.agg #[.int .i64 ((b : Nat) : Int), .int .i64 ((n : Nat) : Int), v], .agg (lineC x)] W fun e w' => ∃ v', e = .returned (.tuple #[.agg #[.int .i64 ((b : Nat) : Int), .int .i64 ((n : Nat) : Int), v'], .int .i64 (addE b n ls x)]) ∧ ReadsL w' v' (addL b n ls x) ∧ Below W.heap.size W w' := by
  obtain ⟨k, hh, p, xv, s⟩ := x
  rcases hk with h | h | h
  · simp only at h; subst h
    exact radd3_c b n hb2 hn v ls hh p xv s W hr hl hsz hss
  · simp only at h; subst h
    exact radd1_c b n hb2 hn v ls hh p xv s W hr hl hsz hss
  · simp only at h; subst h
    exact radd2_c b n hb2 hn v ls hh p xv s W hr hl hsz hss
/-- The drawing's box. -/
def drow : Option St → Value → Array Value
  | none, _ => #[.int .i64 0, .int .i64 0, .slice none 0 0]
  | some (b, n, _), v => #[.int .i64 ((b : Nat) : Int), .int .i64 ((n : Nat) : Int), v]
def dls : Option St → List RL
  | none => []
  | some (_, _, ls) => ls
structure RAu (w V : World) (g : Nat) (st : Option St) (v : Value) : Prop where
  r : V.heap[g]? = some (.cells repZ 37 (0, 0))
  d : V.heap[g + 1]? = some (.cells (drow st v) 49 (0, 0))
  l : ReadsL V v (dls st)
  b : Below g w V
theorem RAu.below {w V V' : World} {g : Nat} {st : Option St} {v : Value} (h : RAu w V g st v) (hb : Below V.heap.size V V') : RAu w V' g st v :=
  ⟨heap_below hb h.r (heap_lt h.r), heap_below hb h.d (heap_lt h.d), h.l.below hb, h.b.trans (hb.mono (Nat.le_of_lt (heap_lt h.r)))⟩
theorem RAu.lt {w V : World} {g : Nat} {st : Option St} {v : Value} (h : RAu w V g st v) : g + 1 < V.heap.size := heap_lt h.d
theorem results_aud4 {fn : Func} {r q s : Tmp} (h : fn.results = #[.cell r 37, .tmp q, .tmp s]) {tmps : Array Value} {W : World} {g : Nat} {rep : Array Value} {k er : Value} (hr : tmps.getD r undef = .pointer (some ⟨g, 0, none⟩)) (hq : tmps.getD q undef = k) (hs : tmps.getD s undef = er) (hg : W.heap[g]? = some (.cells rep 37 (0, 0))) (hc : rep.size = 5) : (results fn tmps).run Tryz.prog W = .ok (.tuple #[.agg rep, k, er]) W := by
  have hl := run_loadVar_row (P := Tryz.prog) W g 37 37 rep (0, 0) _ hg Tryz.underlying37 rfl (by rw [hc]; kernel_rfl)
  have hr' : tmps[r]?.getD undef = .pointer (some ⟨g, 0, none⟩) := by simpa using hr
  have hq' : tmps[q]?.getD undef = k := by simpa using hq
  have hs' : tmps[s]?.getD undef = er := by simpa using hs
  simp [results, h, hr', hq', hs', asAddr, hl]
/-- Why an audit answers that a line is wrong. -/
theorem audR_bad {w' : World} {B : Nat} {l : List UInt8} {k : Nat} {er : Int} (hl : l.length ≤ 20000) (he : er ≠ 0) (h : (audT none 0 (linesL l)).2 = (k, er)) : AudR w' B l (.returned (.tuple #[.agg repZ, .int .i64 ((k : Nat) : Int), .int .i64 er])) := by
  have hRR : auditL l = (none, k, er) := by rw [auditL, if_neg (by omega), h, if_neg he]
  unfold AudR
  rw [hRR]
end Go.Proofs.YtbcileppebpamaaGreatDoor
