/- The law HouseCharts. -/
import Derived.Test.YtcdbkgpgjjeoiaaDoorHO
import Derived.Test.YtcdbkgpgjjeoiaaDoorHK
import Derived.Test.YtcdbkgpgjjeoiaaDoorHR3
import Derived.Test.YtcdbkgpgjjeoiaaDoorR5
import Derived.Test.YtcdbkgpgjjeoiaaDoorEq
namespace Go.Proofs.YtcdbkgpgjjeoiaaDoor
open Go Go.RowKit
set_option maxRecDepth 100000
set_option linter.unusedSimpArgs false
set_option linter.unusedVariables false

theorem neqHouses (S T : Nat → Int) (b : Bool) (hb : b = true ↔ ∀ i, i < 12 → S i = T i) (w : World) : (binOp .neq 24 (.agg (irow 12 S)) (.agg (irow 12 T))).run Tryd.prog w = .ok (.bool (!b)) w :=
  run_neq_irow Tryd.underlying24 Tryd.underlying22 (by kernel_rfl) (fun _ => by kernel_rfl) S T b hb w
theorem neqZero (w : World) : (binOp .neq 24 (.agg (irow 12 fun _ => 0)) (.agg #[.int .i64 0, .int .i64 0, .int .i64 0, .int .i64 0, .int .i64 0, .int .i64 0, .int .i64 0, .int .i64 0, .int .i64 0, .int .i64 0, .int .i64 0, .int .i64 0])).run Tryd.prog w = .ok (.bool false) w :=
  neqHouses (fun _ => 0) (fun _ => 0) true (by simp) w
theorem charts_start (S T : Nat → Int) (w : World) : ((w.alloc (.cells (irow 16 S) 88)).alloc (.cells (irow 12 T) 24)).heap[w.heap.size]? = some (.cells (irow 16 S) 88 (0, 0)) ∧
    ((w.alloc (.cells (irow 16 S) 88)).alloc (.cells (irow 12 T) 24)).heap[w.heap.size + 1]? = some (.cells (irow 12 T) 24 (0, 0)) ∧
    Below w.heap.size w ((w.alloc (.cells (irow 16 S) 88)).alloc (.cells (irow 12 T) 24)) :=
  ⟨heap_alloc2_old w _ _, heap_alloc2_new w _ _, ((Below.refl _ _).alloc (Nat.le_refl _) _).alloc (by simp) _⟩
theorem fort_facts (M : Nat) (h1 : 48 ≤ M) (h2 : M ≤ 96) : ∃ N r F : Nat, fort M = F ∧ ((M : Nat) : Int) - 1 = ((N : Nat) : Int) ∧ IntKind.i64.wrap ((N : Nat) : Int) = ((N : Nat) : Int) ∧ ((N : Nat) : Int) % 12 = ((r : Nat) : Int) ∧ ((r : Nat) : Int) + 1 = ((F : Nat) : Int) ∧ IntKind.i64.wrap ((F : Nat) : Int) = ((F : Nat) : Int) ∧ N ≤ 96 ∧ r < 12 ∧ F ≤ 12 :=
  ⟨M - 1, (M - 1) % 12, (M - 1) % 12 + 1, rfl, by omega, wrap_nat _ (by omega), by omega, by omega, wrap_nat _ (by omega), by omega, by omega, by omega⟩
set_option maxHeartbeats 4000000 in
theorem charts_A_no (S : Nat → Int) (hS : ¬ ∀ i, i < 16 → Fig (S i)) (T : Nat → Int) (hT : ¬ ∀ i, i < 12 → Fig (T i)) (w : World) (L : Laid w) (LH : LaidH w) :
    Calls Tryd.prog 9 #[.agg (irow 16 S), .agg (irow 12 T)] w fun e w' => e = .returned (.bool true) ∧ Below w.heap.size w w' := by
  have HK := LH.known
  have HO := hid (fun W (_ : Below w.heap.size w W) => Of_arg S hS W)
  have HSh := hid (fun W => rShield_no S hS W)
  have HC := hid (fun W => hCheck_no T hT W)
  have HFo := hid (fun W => fort_arg T hT W)
  have HHs := hid (fun W => rHouses_no T hT W)
  obtain ⟨h0, h1, hB⟩ := charts_start S T w
  have H0 := hid h0
  have H1 := hid h1
  have hnz := neqZero
  clear h0 h1 L LH hS hT
  obtain ⟨g, hg⟩ : ∃ g, w.heap.size = g := ⟨_, rfl⟩
  go_enter Tryd.func9, Tryd.ntmps9
  go_wp2_with fail
  generalize (w.alloc (.cells (irow 16 S) 88)).alloc (.cells (irow 12 T) 24) = w1 at *
  rw [hg] at H0 H1 hB HK HO
  go_wp2_with (first
    | (refine ldrow arrShield _ rfl rfl _ rfl _ _ H0.out ?_)
    | (refine ldrow arrHouses _ rfl rfl _ rfl _ _ H1.out ?_)
    | (refine ldrow arrHouses _ rfl rfl _ rfl _ _ HX.out ?_)
    | (go_at_call 39; refine (HO.out _ hB).mono ?_; rintro e w2 ⟨rfl, hb⟩; have hsz := hB.size; have H0 := hid (heap_below hb H0.out (heap_lt H0.out)); have H1 := hid (heap_below hb H1.out (heap_lt H1.out)); have hB := hB.trans (hb.mono (by omega)); have hk := heap_lt H1.out; have hk0 := heap_lt H0.out; have h2 := heap_alloc_new w2 (.cells (irow 12 fun _ => 0) 24); have hB3 := hB.alloc (show g ≤ w2.heap.size by omega) (.cells (irow 12 fun _ => 0) 24);
        have H0 := hid ((heap_alloc_old w2 (.cells (irow 12 fun _ => 0) 24) hk0).trans H0.out); have H1 := hid ((heap_alloc_old w2 (.cells (irow 12 fun _ => 0) 24) hk).trans H1.out))
    | (simp only [zeros12]; refine strow arrHouses _ _ rfl rfl _ (fun _ => 0) rfl rfl _ _ h2 ?_; have hB := below_setRow hB3 (show g ≤ w2.heap.size by omega) (irow 12 (fun _ => 0)); have HX := hid (setRow_heap _ _ _ (irow 12 (fun _ => 0)) _ _ h2);
        have H0 := hid ((setRow_other (w2.alloc (.cells (irow 12 fun _ => 0) 24)) w2.heap.size g (irow 12 (fun _ => 0)) (by omega)).trans H0.out); have H1 := hid ((setRow_other (w2.alloc (.cells (irow 12 fun _ => 0) 24)) w2.heap.size (g + 1) (irow 12 (fun _ => 0)) (by omega)).trans H1.out); clear h2 hB3; generalize World.setRow _ _ _ = ws at *)
    | (go_at_call 40; refine (HC.out _).mono ?_; rintro e w3 ⟨rfl, hb⟩; have hsz := hB.size; have H0 := hid (heap_below hb H0.out (heap_lt H0.out)); have H1 := hid (heap_below hb H1.out (heap_lt H1.out)); have hB := hB.trans (hb.mono (by omega)); have HX := hid (heap_below hb HX.out (heap_lt HX.out)))
    | (go_at_call 25; refine (HFo.out _).mono ?_; rintro e w3 ⟨rfl, hb⟩; have hsz := hB.size; have H0 := hid (heap_below hb H0.out (heap_lt H0.out)); have H1 := hid (heap_below hb H1.out (heap_lt H1.out)); have hB := hB.trans (hb.mono (by omega)); have HX := hid (heap_below hb HX.out (heap_lt HX.out)))
    | (go_at_call 41; refine (HSh.out _).mono ?_; rintro e w3 ⟨rfl, hb⟩; have hsz := hB.size; have H0 := hid (heap_below hb H0.out (heap_lt H0.out)); have H1 := hid (heap_below hb H1.out (heap_lt H1.out)); have hB := hB.trans (hb.mono (by omega)); have HX := hid (heap_below hb HX.out (heap_lt HX.out)))
    | (go_at_call 14; refine (HHs.out _).mono ?_; rintro e w3 ⟨rfl, hb⟩; have hsz := hB.size; have H0 := hid (heap_below hb H0.out (heap_lt H0.out)); have H1 := hid (heap_below hb H1.out (heap_lt H1.out)); have hB := hB.trans (hb.mono (by omega)))
    | (go_at_call 15; refine (HK.out _ hB).mono ?_; rintro e w3 ⟨rfl, hb⟩; have hsz := hB.size; have H0 := hid (heap_below hb H0.out (heap_lt H0.out)); have H1 := hid (heap_below hb H1.out (heap_lt H1.out)); have hB := hB.trans (hb.mono (by omega))))
  go_ret
  exact ⟨rfl, hg ▸ hB⟩
set_option maxHeartbeats 4000000 in
theorem charts_A_yes (S : Nat → Int) (hS : ¬ ∀ i, i < 16 → Fig (S i)) (h : Nat → Nat) (hh : ∀ i, i < 12 → h i < 16) (w : World) (L : Laid w) (LH : LaidH w) :
    Calls Tryd.prog 9 #[.agg (irow 16 S), .agg (irow 12 (cst h))] w fun e w' => e = .returned (.bool true) ∧ Below w.heap.size w w' := by
  have HK := LH.known
  have HO := hid (fun W (_ : Below w.heap.size w W) => Of_arg S hS W)
  have HSh := hid (fun W => rShield_no S hS W)
  have hT : ∀ i, i < 12 → Fig (cst h i) := fun i hi => ⟨by simp, by have := hh i hi; simp; omega⟩
  have HC := hid (fun W => hCheck_yes (cst h) hT W)
  have HFo := hid (fun W => fort_c h hh W)
  have HHs := hid (fun W => rHouses_yes (cst h) hT W)
  have HMk := hid (fun W => rMarks h hh W)
  have hmb := mks_bd h hh 12 (by omega)
  obtain ⟨M, hM⟩ : ∃ M, mks h 12 = M := ⟨_, rfl⟩
  rw [hM] at HFo HMk hmb
  obtain ⟨N, r, F2, f1, f2, f3, f4, f5, f6, f7, f8, f9⟩ := fort_facts M hmb.1 hmb.2
  rw [f1] at HFo
  clear hh hM f1
  obtain ⟨h0, h1, hB⟩ := charts_start S (cst h) w
  have H0 := hid h0
  have H1 := hid h1
  have hnz := neqZero
  clear h0 h1 L LH hS hT
  obtain ⟨g, hg⟩ : ∃ g, w.heap.size = g := ⟨_, rfl⟩
  go_enter Tryd.func9, Tryd.ntmps9
  go_wp2_with fail
  generalize (w.alloc (.cells (irow 16 S) 88)).alloc (.cells (irow 12 (cst h)) 24) = w1 at *
  rw [hg] at H0 H1 hB HK HO
  go_wp2_with (first
    | (refine ldrow arrShield _ rfl rfl _ rfl _ _ H0.out ?_)
    | (refine ldrow arrHouses _ rfl rfl _ rfl _ _ H1.out ?_)
    | (refine ldrow arrHouses _ rfl rfl _ rfl _ _ HX.out ?_)
    | (go_at_call 39; refine (HO.out _ hB).mono ?_; rintro e w2 ⟨rfl, hb⟩; have hsz := hB.size; have H0 := hid (heap_below hb H0.out (heap_lt H0.out)); have H1 := hid (heap_below hb H1.out (heap_lt H1.out)); have hB := hB.trans (hb.mono (by omega)); have hk := heap_lt H1.out; have hk0 := heap_lt H0.out; have h2 := heap_alloc_new w2 (.cells (irow 12 fun _ => 0) 24); have hB3 := hB.alloc (show g ≤ w2.heap.size by omega) (.cells (irow 12 fun _ => 0) 24);
        have H0 := hid ((heap_alloc_old w2 (.cells (irow 12 fun _ => 0) 24) hk0).trans H0.out); have H1 := hid ((heap_alloc_old w2 (.cells (irow 12 fun _ => 0) 24) hk).trans H1.out))
    | (simp only [zeros12]; refine strow arrHouses _ _ rfl rfl _ (fun _ => 0) rfl rfl _ _ h2 ?_; have hB := below_setRow hB3 (show g ≤ w2.heap.size by omega) (irow 12 (fun _ => 0)); have HX := hid (setRow_heap _ _ _ (irow 12 (fun _ => 0)) _ _ h2);
        have H0 := hid ((setRow_other (w2.alloc (.cells (irow 12 fun _ => 0) 24)) w2.heap.size g (irow 12 (fun _ => 0)) (by omega)).trans H0.out); have H1 := hid ((setRow_other (w2.alloc (.cells (irow 12 fun _ => 0) 24)) w2.heap.size (g + 1) (irow 12 (fun _ => 0)) (by omega)).trans H1.out); clear h2 hB3; generalize World.setRow _ _ _ = ws at *)
    | (go_at_call 40; refine (HC.out _).mono ?_; rintro e w3 ⟨rfl, hb⟩; have hsz := hB.size; have H0 := hid (heap_below hb H0.out (heap_lt H0.out)); have H1 := hid (heap_below hb H1.out (heap_lt H1.out)); have hB := hB.trans (hb.mono (by omega)); have HX := hid (heap_below hb HX.out (heap_lt HX.out)))
    | (go_at_call 25; refine (HFo.out _).mono ?_; rintro e w3 ⟨rfl, hb⟩; have hsz := hB.size; have H0 := hid (heap_below hb H0.out (heap_lt H0.out)); have H1 := hid (heap_below hb H1.out (heap_lt H1.out)); have hB := hB.trans (hb.mono (by omega)); have HX := hid (heap_below hb HX.out (heap_lt HX.out)))
    | (go_at_call 41; refine (HSh.out _).mono ?_; rintro e w3 ⟨rfl, hb⟩; have hsz := hB.size; have H0 := hid (heap_below hb H0.out (heap_lt H0.out)); have H1 := hid (heap_below hb H1.out (heap_lt H1.out)); have hB := hB.trans (hb.mono (by omega)); have HX := hid (heap_below hb HX.out (heap_lt HX.out)))
    | (go_at_call 14; refine (HHs.out _).mono ?_; rintro e w3 ⟨rfl, hb⟩; have hsz := hB.size; have H0 := hid (heap_below hb H0.out (heap_lt H0.out)); have H1 := hid (heap_below hb H1.out (heap_lt H1.out)); have hB := hB.trans (hb.mono (by omega)))
    | (go_at_call 43; refine (HMk.out _).mono ?_; rintro e w3 ⟨rfl, hb⟩; have hsz := hB.size; have H0 := hid (heap_below hb H0.out (heap_lt H0.out)); have H1 := hid (heap_below hb H1.out (heap_lt H1.out)); have hB := hB.trans (hb.mono (by omega)))
    | (go_at_call 15; refine (HK.out _ hB).mono ?_; rintro e w3 ⟨rfl, hb⟩; have hsz := hB.size; have H0 := hid (heap_below hb H0.out (heap_lt H0.out)); have H1 := hid (heap_below hb H1.out (heap_lt H1.out)); have hB := hB.trans (hb.mono (by omega))))
  go_ret
  exact ⟨rfl, hg ▸ hB⟩
set_option maxHeartbeats 4000000 in
theorem charts_B_no (F : Nat → Nat) (hF : ∀ i, i < 16 → F i < 16) (hw : wl F 16 ≠ []) (T : Nat → Int) (hT : ¬ ∀ i, i < 12 → Fig (T i)) (w : World) (L : Laid w) (LH : LaidH w) :
    Calls Tryd.prog 9 #[.agg (irow 16 (cst F)), .agg (irow 12 T)] w fun e w' => e = .returned (.bool true) ∧ Below w.heap.size w w' := by
  have HK := LH.known
  have HO := hid (fun W (hW : Below w.heap.size w W) => Of_wrong F hF hw W (L.below hW))
  have HSh := hid (fun W => rShield_yes (cst F) (fun i hi => ⟨by simp, by have := hF i hi; simp; omega⟩) W)
  have HWr := hid (fun W => rWrong F hF W)
  have hpos : 0 < (wl F 16).length := List.length_pos_iff.2 hw
  generalize wl F 16 = L0 at *
  have hpos' : (0 : Int) < ((L0.length : Nat) : Int) := by omega
  have HC := hid (fun W => hCheck_no T hT W)
  have HFo := hid (fun W => fort_arg T hT W)
  have HHs := hid (fun W => rHouses_no T hT W)
  obtain ⟨h0, h1, hB⟩ := charts_start (cst F) T w
  have H0 := hid h0
  have H1 := hid h1
  have hnz := neqZero
  clear h0 h1 L LH hF hw hT
  obtain ⟨g, hg⟩ : ∃ g, w.heap.size = g := ⟨_, rfl⟩
  go_enter Tryd.func9, Tryd.ntmps9
  go_wp2_with fail
  generalize (w.alloc (.cells (irow 16 (cst F)) 88)).alloc (.cells (irow 12 T) 24) = w1 at *
  rw [hg] at H0 H1 hB HK HO
  go_wp2_with (first
    | (refine ldrow arrShield _ rfl rfl _ rfl _ _ H0.out ?_)
    | (refine ldrow arrHouses _ rfl rfl _ rfl _ _ H1.out ?_)
    | (refine ldrow arrHouses _ rfl rfl _ rfl _ _ HX.out ?_)
    | (go_at_call 39; refine (HO.out _ hB).mono ?_; rintro e w2 ⟨rfl, hb⟩; have hsz := hB.size; have H0 := hid (heap_below hb H0.out (heap_lt H0.out)); have H1 := hid (heap_below hb H1.out (heap_lt H1.out)); have hB := hB.trans (hb.mono (by omega)); have hk := heap_lt H1.out; have hk0 := heap_lt H0.out; have h2 := heap_alloc_new w2 (.cells (irow 12 fun _ => 0) 24); have hB3 := hB.alloc (show g ≤ w2.heap.size by omega) (.cells (irow 12 fun _ => 0) 24);
        have H0 := hid ((heap_alloc_old w2 (.cells (irow 12 fun _ => 0) 24) hk0).trans H0.out); have H1 := hid ((heap_alloc_old w2 (.cells (irow 12 fun _ => 0) 24) hk).trans H1.out))
    | (simp only [zeros12]; refine strow arrHouses _ _ rfl rfl _ (fun _ => 0) rfl rfl _ _ h2 ?_; have hB := below_setRow hB3 (show g ≤ w2.heap.size by omega) (irow 12 (fun _ => 0)); have HX := hid (setRow_heap _ _ _ (irow 12 (fun _ => 0)) _ _ h2);
        have H0 := hid ((setRow_other (w2.alloc (.cells (irow 12 fun _ => 0) 24)) w2.heap.size g (irow 12 (fun _ => 0)) (by omega)).trans H0.out); have H1 := hid ((setRow_other (w2.alloc (.cells (irow 12 fun _ => 0) 24)) w2.heap.size (g + 1) (irow 12 (fun _ => 0)) (by omega)).trans H1.out); clear h2 hB3; generalize World.setRow _ _ _ = ws at *)
    | (go_at_call 40; refine (HC.out _).mono ?_; rintro e w3 ⟨rfl, hb⟩; have hsz := hB.size; have H0 := hid (heap_below hb H0.out (heap_lt H0.out)); have H1 := hid (heap_below hb H1.out (heap_lt H1.out)); have hB := hB.trans (hb.mono (by omega)); have HX := hid (heap_below hb HX.out (heap_lt HX.out)))
    | (go_at_call 25; refine (HFo.out _).mono ?_; rintro e w3 ⟨rfl, hb⟩; have hsz := hB.size; have H0 := hid (heap_below hb H0.out (heap_lt H0.out)); have H1 := hid (heap_below hb H1.out (heap_lt H1.out)); have hB := hB.trans (hb.mono (by omega)); have HX := hid (heap_below hb HX.out (heap_lt HX.out)))
    | (go_at_call 41; refine (HSh.out _).mono ?_; rintro e w3 ⟨rfl, hb⟩; have hsz := hB.size; have H0 := hid (heap_below hb H0.out (heap_lt H0.out)); have H1 := hid (heap_below hb H1.out (heap_lt H1.out)); have hB := hB.trans (hb.mono (by omega)); have HX := hid (heap_below hb HX.out (heap_lt HX.out)))
    | (go_at_call 42; refine (HWr.out _).mono ?_; rintro e w3 ⟨v3, rfl, hI, hb⟩; obtain ⟨p3, c3, rfl⟩ := row_form hI; clear hI; have hsz := hB.size; have H0 := hid (heap_below hb H0.out (heap_lt H0.out)); have H1 := hid (heap_below hb H1.out (heap_lt H1.out)); have hB := hB.trans (hb.mono (by omega)); have HX := hid (heap_below hb HX.out (heap_lt HX.out)))
    | (go_at_call 14; refine (HHs.out _).mono ?_; rintro e w3 ⟨rfl, hb⟩; have hsz := hB.size; have H0 := hid (heap_below hb H0.out (heap_lt H0.out)); have H1 := hid (heap_below hb H1.out (heap_lt H1.out)); have hB := hB.trans (hb.mono (by omega)))
    | (go_at_call 15; refine (HK.out _ hB).mono ?_; rintro e w3 ⟨rfl, hb⟩; have hsz := hB.size; have H0 := hid (heap_below hb H0.out (heap_lt H0.out)); have H1 := hid (heap_below hb H1.out (heap_lt H1.out)); have hB := hB.trans (hb.mono (by omega))))
  go_ret
  exact ⟨rfl, hg ▸ hB⟩
set_option maxHeartbeats 4000000 in
theorem charts_B_yes (F : Nat → Nat) (hF : ∀ i, i < 16 → F i < 16) (hw : wl F 16 ≠ []) (h : Nat → Nat) (hh : ∀ i, i < 12 → h i < 16) (w : World) (L : Laid w) (LH : LaidH w) :
    Calls Tryd.prog 9 #[.agg (irow 16 (cst F)), .agg (irow 12 (cst h))] w fun e w' => e = .returned (.bool true) ∧ Below w.heap.size w w' := by
  have HK := LH.known
  have HO := hid (fun W (hW : Below w.heap.size w W) => Of_wrong F hF hw W (L.below hW))
  have HSh := hid (fun W => rShield_yes (cst F) (fun i hi => ⟨by simp, by have := hF i hi; simp; omega⟩) W)
  have HWr := hid (fun W => rWrong F hF W)
  have hpos : 0 < (wl F 16).length := List.length_pos_iff.2 hw
  generalize wl F 16 = L0 at *
  have hpos' : (0 : Int) < ((L0.length : Nat) : Int) := by omega
  have hT : ∀ i, i < 12 → Fig (cst h i) := fun i hi => ⟨by simp, by have := hh i hi; simp; omega⟩
  have HC := hid (fun W => hCheck_yes (cst h) hT W)
  have HFo := hid (fun W => fort_c h hh W)
  have HHs := hid (fun W => rHouses_yes (cst h) hT W)
  have HMk := hid (fun W => rMarks h hh W)
  have hmb := mks_bd h hh 12 (by omega)
  obtain ⟨M, hM⟩ : ∃ M, mks h 12 = M := ⟨_, rfl⟩
  rw [hM] at HFo HMk hmb
  obtain ⟨N, r, F2, f1, f2, f3, f4, f5, f6, f7, f8, f9⟩ := fort_facts M hmb.1 hmb.2
  rw [f1] at HFo
  clear hh hM f1
  obtain ⟨h0, h1, hB⟩ := charts_start (cst F) (cst h) w
  have H0 := hid h0
  have H1 := hid h1
  have hnz := neqZero
  clear h0 h1 L LH hF hw hT
  obtain ⟨g, hg⟩ : ∃ g, w.heap.size = g := ⟨_, rfl⟩
  go_enter Tryd.func9, Tryd.ntmps9
  go_wp2_with fail
  generalize (w.alloc (.cells (irow 16 (cst F)) 88)).alloc (.cells (irow 12 (cst h)) 24) = w1 at *
  rw [hg] at H0 H1 hB HK HO
  go_wp2_with (first
    | (refine ldrow arrShield _ rfl rfl _ rfl _ _ H0.out ?_)
    | (refine ldrow arrHouses _ rfl rfl _ rfl _ _ H1.out ?_)
    | (refine ldrow arrHouses _ rfl rfl _ rfl _ _ HX.out ?_)
    | (go_at_call 39; refine (HO.out _ hB).mono ?_; rintro e w2 ⟨rfl, hb⟩; have hsz := hB.size; have H0 := hid (heap_below hb H0.out (heap_lt H0.out)); have H1 := hid (heap_below hb H1.out (heap_lt H1.out)); have hB := hB.trans (hb.mono (by omega)); have hk := heap_lt H1.out; have hk0 := heap_lt H0.out; have h2 := heap_alloc_new w2 (.cells (irow 12 fun _ => 0) 24); have hB3 := hB.alloc (show g ≤ w2.heap.size by omega) (.cells (irow 12 fun _ => 0) 24);
        have H0 := hid ((heap_alloc_old w2 (.cells (irow 12 fun _ => 0) 24) hk0).trans H0.out); have H1 := hid ((heap_alloc_old w2 (.cells (irow 12 fun _ => 0) 24) hk).trans H1.out))
    | (simp only [zeros12]; refine strow arrHouses _ _ rfl rfl _ (fun _ => 0) rfl rfl _ _ h2 ?_; have hB := below_setRow hB3 (show g ≤ w2.heap.size by omega) (irow 12 (fun _ => 0)); have HX := hid (setRow_heap _ _ _ (irow 12 (fun _ => 0)) _ _ h2);
        have H0 := hid ((setRow_other (w2.alloc (.cells (irow 12 fun _ => 0) 24)) w2.heap.size g (irow 12 (fun _ => 0)) (by omega)).trans H0.out); have H1 := hid ((setRow_other (w2.alloc (.cells (irow 12 fun _ => 0) 24)) w2.heap.size (g + 1) (irow 12 (fun _ => 0)) (by omega)).trans H1.out); clear h2 hB3; generalize World.setRow _ _ _ = ws at *)
    | (go_at_call 40; refine (HC.out _).mono ?_; rintro e w3 ⟨rfl, hb⟩; have hsz := hB.size; have H0 := hid (heap_below hb H0.out (heap_lt H0.out)); have H1 := hid (heap_below hb H1.out (heap_lt H1.out)); have hB := hB.trans (hb.mono (by omega)); have HX := hid (heap_below hb HX.out (heap_lt HX.out)))
    | (go_at_call 25; refine (HFo.out _).mono ?_; rintro e w3 ⟨rfl, hb⟩; have hsz := hB.size; have H0 := hid (heap_below hb H0.out (heap_lt H0.out)); have H1 := hid (heap_below hb H1.out (heap_lt H1.out)); have hB := hB.trans (hb.mono (by omega)); have HX := hid (heap_below hb HX.out (heap_lt HX.out)))
    | (go_at_call 41; refine (HSh.out _).mono ?_; rintro e w3 ⟨rfl, hb⟩; have hsz := hB.size; have H0 := hid (heap_below hb H0.out (heap_lt H0.out)); have H1 := hid (heap_below hb H1.out (heap_lt H1.out)); have hB := hB.trans (hb.mono (by omega)); have HX := hid (heap_below hb HX.out (heap_lt HX.out)))
    | (go_at_call 42; refine (HWr.out _).mono ?_; rintro e w3 ⟨v3, rfl, hI, hb⟩; obtain ⟨p3, c3, rfl⟩ := row_form hI; clear hI; have hsz := hB.size; have H0 := hid (heap_below hb H0.out (heap_lt H0.out)); have H1 := hid (heap_below hb H1.out (heap_lt H1.out)); have hB := hB.trans (hb.mono (by omega)); have HX := hid (heap_below hb HX.out (heap_lt HX.out)))
    | (go_at_call 14; refine (HHs.out _).mono ?_; rintro e w3 ⟨rfl, hb⟩; have hsz := hB.size; have H0 := hid (heap_below hb H0.out (heap_lt H0.out)); have H1 := hid (heap_below hb H1.out (heap_lt H1.out)); have hB := hB.trans (hb.mono (by omega)))
    | (go_at_call 43; refine (HMk.out _).mono ?_; rintro e w3 ⟨rfl, hb⟩; have hsz := hB.size; have H0 := hid (heap_below hb H0.out (heap_lt H0.out)); have H1 := hid (heap_below hb H1.out (heap_lt H1.out)); have hB := hB.trans (hb.mono (by omega)))
    | (go_at_call 15; refine (HK.out _ hB).mono ?_; rintro e w3 ⟨rfl, hb⟩; have hsz := hB.size; have H0 := hid (heap_below hb H0.out (heap_lt H0.out)); have H1 := hid (heap_below hb H1.out (heap_lt H1.out)); have hB := hB.trans (hb.mono (by omega))))
  go_ret
  exact ⟨rfl, hg ▸ hB⟩
set_option maxHeartbeats 4000000 in
theorem charts_C_no (F : Nat → Nat) (hF : ∀ i, i < 16 → F i < 16) (hw : wl F 16 = []) (T : Nat → Int) (hT : ¬ ∀ i, i < 12 → Fig (T i)) (w : World) (L : Laid w) (LH : LaidH w) :
    Calls Tryd.prog 9 #[.agg (irow 16 (cst F)), .agg (irow 12 T)] w fun e w' => e = .returned (.bool true) ∧ Below w.heap.size w w' := by
  have HK := LH.known
  have HO := hid (fun W (hW : Below w.heap.size w W) => Of_ok F hF hw W (L.below hW))
  have HSh := hid (fun W => rShield_yes (cst F) (fun i hi => ⟨by simp, by have := hF i hi; simp; omega⟩) W)
  have HWr := hid (fun W => rWrong F hF W)
  rw [hw] at HWr
  have HC := hid (fun W => hCheck_no T hT W)
  have HFo := hid (fun W => fort_arg T hT W)
  have HHs := hid (fun W => rHouses_no T hT W)
  obtain ⟨h0, h1, hB⟩ := charts_start (cst F) T w
  have H0 := hid h0
  have H1 := hid h1
  have hnz := neqZero
  clear h0 h1 L LH hF hw hT
  obtain ⟨g, hg⟩ : ∃ g, w.heap.size = g := ⟨_, rfl⟩
  go_enter Tryd.func9, Tryd.ntmps9
  go_wp2_with fail
  generalize (w.alloc (.cells (irow 16 (cst F)) 88)).alloc (.cells (irow 12 T) 24) = w1 at *
  rw [hg] at H0 H1 hB HK HO
  go_wp2_with (first
    | (refine ldrow arrShield _ rfl rfl _ rfl _ _ H0.out ?_)
    | (refine ldrow arrHouses _ rfl rfl _ rfl _ _ H1.out ?_)
    | (refine ldrow arrHouses _ rfl rfl _ rfl _ _ HX.out ?_)
    | (go_at_call 39; refine (HO.out _ hB).mono ?_; rintro e w2 ⟨rfl, hb⟩; have hsz := hB.size; have H0 := hid (heap_below hb H0.out (heap_lt H0.out)); have H1 := hid (heap_below hb H1.out (heap_lt H1.out)); have hB := hB.trans (hb.mono (by omega)); have hk := heap_lt H1.out; have hk0 := heap_lt H0.out; have h2 := heap_alloc_new w2 (.cells (irow 12 fun _ => 0) 24); have hB3 := hB.alloc (show g ≤ w2.heap.size by omega) (.cells (irow 12 fun _ => 0) 24);
        have H0 := hid ((heap_alloc_old w2 (.cells (irow 12 fun _ => 0) 24) hk0).trans H0.out); have H1 := hid ((heap_alloc_old w2 (.cells (irow 12 fun _ => 0) 24) hk).trans H1.out))
    | (simp only [zeros12]; refine strow arrHouses _ _ rfl rfl _ (cst F) rfl rfl _ _ h2 ?_; have hB := below_setRow hB3 (show g ≤ w2.heap.size by omega) (irow 12 (cst F)); have HX := hid (setRow_heap _ _ _ (irow 12 (cst F)) _ _ h2);
        have H0 := hid ((setRow_other (w2.alloc (.cells (irow 12 fun _ => 0) 24)) w2.heap.size g (irow 12 (cst F)) (by omega)).trans H0.out); have H1 := hid ((setRow_other (w2.alloc (.cells (irow 12 fun _ => 0) 24)) w2.heap.size (g + 1) (irow 12 (cst F)) (by omega)).trans H1.out); clear h2 hB3; generalize World.setRow _ _ _ = ws at *)
    | (go_at_call 40; refine (HC.out _).mono ?_; rintro e w3 ⟨rfl, hb⟩; have hsz := hB.size; have H0 := hid (heap_below hb H0.out (heap_lt H0.out)); have H1 := hid (heap_below hb H1.out (heap_lt H1.out)); have hB := hB.trans (hb.mono (by omega)); have HX := hid (heap_below hb HX.out (heap_lt HX.out)))
    | (go_at_call 25; refine (HFo.out _).mono ?_; rintro e w3 ⟨rfl, hb⟩; have hsz := hB.size; have H0 := hid (heap_below hb H0.out (heap_lt H0.out)); have H1 := hid (heap_below hb H1.out (heap_lt H1.out)); have hB := hB.trans (hb.mono (by omega)); have HX := hid (heap_below hb HX.out (heap_lt HX.out)))
    | (go_at_call 41; refine (HSh.out _).mono ?_; rintro e w3 ⟨rfl, hb⟩; have hsz := hB.size; have H0 := hid (heap_below hb H0.out (heap_lt H0.out)); have H1 := hid (heap_below hb H1.out (heap_lt H1.out)); have hB := hB.trans (hb.mono (by omega)); have HX := hid (heap_below hb HX.out (heap_lt HX.out)))
    | (go_at_call 42; refine (HWr.out _).mono ?_; rintro e w3 ⟨v3, rfl, hI, hb⟩; obtain ⟨p3, c3, rfl⟩ := row_form hI; clear hI; have hsz := hB.size; have H0 := hid (heap_below hb H0.out (heap_lt H0.out)); have H1 := hid (heap_below hb H1.out (heap_lt H1.out)); have hB := hB.trans (hb.mono (by omega)); have HX := hid (heap_below hb HX.out (heap_lt HX.out)))
    | fail)
  go_loopw [11] (fun i wr => ∃ k n : Nat, k ≤ 12 ∧ i = .int .i64 k ∧ wr = w3.drewN n) (fun i _ => 12 - (intOf i).toNat)
  case atStart => exact ⟨0, 0, by omega, rfl, rfl⟩
  case round =>
    obtain ⟨k, n, hk, rfl, rfl⟩ := hrel
    by_cases hlt : k < 12
    · have hlt' : ((k : Nat) : Int) < 12 := by omega
      have hlt2 : ((k : Nat) : Int) < 16 := by omega
      have hp0 : (0 : Int) ≤ k := by omega
      have c1 := cell_irow HX.out k hlt
      have c2 := cell_irow H0.out k (by omega)
      obtain ⟨z, hz⟩ : ∃ z, cst F k = z := ⟨_, rfl⟩
      rw [hz] at c1 c2
      have hne : (z != z) = false := by simp
      clear hz
      go_wp2_with fail
      go_quiet (fail)
      go_wp2_with fail
      go_roundw
      case rel => exact ⟨k + 1, n + nq, by omega, by go_num, rfl⟩
      case measure => simp [intOf]; omega
    · have hge : ¬ ((k : Nat) : Int) < 12 := by omega
      have H1 := hid (show (w3.drewN n).heap[g + 1]? = some (.cells (irow 12 T) 24 (0, 0)) from H1.out)
      have H0 := hid (show (w3.drewN n).heap[g]? = some (.cells (irow 16 (cst F)) 88 (0, 0)) from H0.out)
      have hB := below_drewN hB n
      generalize w3.drewN n = w4 at *
      go_wp2_with (first
        | (refine ldrow arrHouses _ rfl rfl _ rfl _ _ H1.out ?_)
        | (go_at_call 14; refine (HHs.out _).mono ?_; rintro e w3 ⟨rfl, hb⟩; have hsz := hB.size; have H0 := hid (heap_below hb H0.out (heap_lt H0.out)); have H1 := hid (heap_below hb H1.out (heap_lt H1.out)); have hB := hB.trans (hb.mono (by omega)))
        | (go_at_call 15; refine (HK.out _ hB).mono ?_; rintro e w3 ⟨rfl, hb⟩; have hsz := hB.size; have H0 := hid (heap_below hb H0.out (heap_lt H0.out)); have H1 := hid (heap_below hb H1.out (heap_lt H1.out)); have hB := hB.trans (hb.mono (by omega))))
      go_ret
      exact ⟨rfl, hg ▸ hB⟩
set_option maxHeartbeats 4000000 in
theorem charts_C_yes (F : Nat → Nat) (hF : ∀ i, i < 16 → F i < 16) (hw : wl F 16 = []) (h : Nat → Nat) (hh : ∀ i, i < 12 → h i < 16) (w : World) (L : Laid w) (LH : LaidH w) :
    Calls Tryd.prog 9 #[.agg (irow 16 (cst F)), .agg (irow 12 (cst h))] w fun e w' => e = .returned (.bool true) ∧ Below w.heap.size w w' := by
  have HK := LH.known
  have HO := hid (fun W (hW : Below w.heap.size w W) => Of_ok F hF hw W (L.below hW))
  have HSh := hid (fun W => rShield_yes (cst F) (fun i hi => ⟨by simp, by have := hF i hi; simp; omega⟩) W)
  have HWr := hid (fun W => rWrong F hF W)
  rw [hw] at HWr
  have hT : ∀ i, i < 12 → Fig (cst h i) := fun i hi => ⟨by simp, by have := hh i hi; simp; omega⟩
  have HC := hid (fun W => hCheck_yes (cst h) hT W)
  have HFo := hid (fun W => fort_c h hh W)
  have HHs := hid (fun W => rHouses_yes (cst h) hT W)
  have HMk := hid (fun W => rMarks h hh W)
  have hmb := mks_bd h hh 12 (by omega)
  obtain ⟨M, hM⟩ : ∃ M, mks h 12 = M := ⟨_, rfl⟩
  rw [hM] at HFo HMk hmb
  obtain ⟨N, r, F2, f1, f2, f3, f4, f5, f6, f7, f8, f9⟩ := fort_facts M hmb.1 hmb.2
  rw [f1] at HFo
  clear hh hM f1
  obtain ⟨h0, h1, hB⟩ := charts_start (cst F) (cst h) w
  have H0 := hid h0
  have H1 := hid h1
  have hnz := neqZero
  clear h0 h1 L LH hF hw hT
  obtain ⟨g, hg⟩ : ∃ g, w.heap.size = g := ⟨_, rfl⟩
  go_enter Tryd.func9, Tryd.ntmps9
  go_wp2_with fail
  generalize (w.alloc (.cells (irow 16 (cst F)) 88)).alloc (.cells (irow 12 (cst h)) 24) = w1 at *
  rw [hg] at H0 H1 hB HK HO
  go_wp2_with (first
    | (refine ldrow arrShield _ rfl rfl _ rfl _ _ H0.out ?_)
    | (refine ldrow arrHouses _ rfl rfl _ rfl _ _ H1.out ?_)
    | (refine ldrow arrHouses _ rfl rfl _ rfl _ _ HX.out ?_)
    | (go_at_call 39; refine (HO.out _ hB).mono ?_; rintro e w2 ⟨rfl, hb⟩; have hsz := hB.size; have H0 := hid (heap_below hb H0.out (heap_lt H0.out)); have H1 := hid (heap_below hb H1.out (heap_lt H1.out)); have hB := hB.trans (hb.mono (by omega)); have hk := heap_lt H1.out; have hk0 := heap_lt H0.out; have h2 := heap_alloc_new w2 (.cells (irow 12 fun _ => 0) 24); have hB3 := hB.alloc (show g ≤ w2.heap.size by omega) (.cells (irow 12 fun _ => 0) 24);
        have H0 := hid ((heap_alloc_old w2 (.cells (irow 12 fun _ => 0) 24) hk0).trans H0.out); have H1 := hid ((heap_alloc_old w2 (.cells (irow 12 fun _ => 0) 24) hk).trans H1.out))
    | (simp only [zeros12]; refine strow arrHouses _ _ rfl rfl _ (cst F) rfl rfl _ _ h2 ?_; have hB := below_setRow hB3 (show g ≤ w2.heap.size by omega) (irow 12 (cst F)); have HX := hid (setRow_heap _ _ _ (irow 12 (cst F)) _ _ h2);
        have H0 := hid ((setRow_other (w2.alloc (.cells (irow 12 fun _ => 0) 24)) w2.heap.size g (irow 12 (cst F)) (by omega)).trans H0.out); have H1 := hid ((setRow_other (w2.alloc (.cells (irow 12 fun _ => 0) 24)) w2.heap.size (g + 1) (irow 12 (cst F)) (by omega)).trans H1.out); clear h2 hB3; generalize World.setRow _ _ _ = ws at *)
    | (go_at_call 40; refine (HC.out _).mono ?_; rintro e w3 ⟨rfl, hb⟩; have hsz := hB.size; have H0 := hid (heap_below hb H0.out (heap_lt H0.out)); have H1 := hid (heap_below hb H1.out (heap_lt H1.out)); have hB := hB.trans (hb.mono (by omega)); have HX := hid (heap_below hb HX.out (heap_lt HX.out)))
    | (go_at_call 25; refine (HFo.out _).mono ?_; rintro e w3 ⟨rfl, hb⟩; have hsz := hB.size; have H0 := hid (heap_below hb H0.out (heap_lt H0.out)); have H1 := hid (heap_below hb H1.out (heap_lt H1.out)); have hB := hB.trans (hb.mono (by omega)); have HX := hid (heap_below hb HX.out (heap_lt HX.out)))
    | (go_at_call 41; refine (HSh.out _).mono ?_; rintro e w3 ⟨rfl, hb⟩; have hsz := hB.size; have H0 := hid (heap_below hb H0.out (heap_lt H0.out)); have H1 := hid (heap_below hb H1.out (heap_lt H1.out)); have hB := hB.trans (hb.mono (by omega)); have HX := hid (heap_below hb HX.out (heap_lt HX.out)))
    | (go_at_call 42; refine (HWr.out _).mono ?_; rintro e w3 ⟨v3, rfl, hI, hb⟩; obtain ⟨p3, c3, rfl⟩ := row_form hI; clear hI; have hsz := hB.size; have H0 := hid (heap_below hb H0.out (heap_lt H0.out)); have H1 := hid (heap_below hb H1.out (heap_lt H1.out)); have hB := hB.trans (hb.mono (by omega)); have HX := hid (heap_below hb HX.out (heap_lt HX.out)))
    | fail)
  go_loopw [11] (fun i wr => ∃ k n : Nat, k ≤ 12 ∧ i = .int .i64 k ∧ wr = w3.drewN n) (fun i _ => 12 - (intOf i).toNat)
  case atStart => exact ⟨0, 0, by omega, rfl, rfl⟩
  case round =>
    obtain ⟨k, n, hk, rfl, rfl⟩ := hrel
    by_cases hlt : k < 12
    · have hlt' : ((k : Nat) : Int) < 12 := by omega
      have hlt2 : ((k : Nat) : Int) < 16 := by omega
      have hp0 : (0 : Int) ≤ k := by omega
      have c1 := cell_irow HX.out k hlt
      have c2 := cell_irow H0.out k (by omega)
      obtain ⟨z, hz⟩ : ∃ z, cst F k = z := ⟨_, rfl⟩
      rw [hz] at c1 c2
      have hne : (z != z) = false := by simp
      clear hz
      go_wp2_with fail
      go_quiet (fail)
      go_wp2_with fail
      go_roundw
      case rel => exact ⟨k + 1, n + nq, by omega, by go_num, rfl⟩
      case measure => simp [intOf]; omega
    · have hge : ¬ ((k : Nat) : Int) < 12 := by omega
      have H1 := hid (show (w3.drewN n).heap[g + 1]? = some (.cells (irow 12 (cst h)) 24 (0, 0)) from H1.out)
      have H0 := hid (show (w3.drewN n).heap[g]? = some (.cells (irow 16 (cst F)) 88 (0, 0)) from H0.out)
      have hB := below_drewN hB n
      generalize w3.drewN n = w4 at *
      go_wp2_with (first
        | (refine ldrow arrHouses _ rfl rfl _ rfl _ _ H1.out ?_)
        | (go_at_call 14; refine (HHs.out _).mono ?_; rintro e w3 ⟨rfl, hb⟩; have hsz := hB.size; have H0 := hid (heap_below hb H0.out (heap_lt H0.out)); have H1 := hid (heap_below hb H1.out (heap_lt H1.out)); have hB := hB.trans (hb.mono (by omega)))
        | (go_at_call 43; refine (HMk.out _).mono ?_; rintro e w3 ⟨rfl, hb⟩; have hsz := hB.size; have H0 := hid (heap_below hb H0.out (heap_lt H0.out)); have H1 := hid (heap_below hb H1.out (heap_lt H1.out)); have hB := hB.trans (hb.mono (by omega)))
        | (go_at_call 15; refine (HK.out _ hB).mono ?_; rintro e w3 ⟨rfl, hb⟩; have hsz := hB.size; have H0 := hid (heap_below hb H0.out (heap_lt H0.out)); have H1 := hid (heap_below hb H1.out (heap_lt H1.out)); have hB := hB.trans (hb.mono (by omega))))
      go_ret
      exact ⟨rfl, hg ▸ hB⟩
theorem nat_rowH (n : Nat) (S : Nat → Int) (hS : ∀ i, i < n → Fig (S i)) : irow n S = irow n (cst fun i => (S i).toNat) := irow_congr fun i hi => by have := hS i hi; unfold Fig at this; simp [cst]; omega
theorem lawCharts (S T : Nat → Int) (w : World) (LP : LaidP w) :
    Calls Tryd.prog 9 #[.agg (irow 16 S), .agg (irow 12 T)] w fun e w' => e = .returned (.bool true) ∧ Below w.heap.size w w' := by
  have L := LP.L
  have LH := LP.H
  by_cases hT : ∀ i, i < 12 → Fig (T i)
  · have hh : ∀ i, i < 12 → (fun i => (T i).toNat) i < 16 := fun i hi => by have := hT i hi; unfold Fig at this; show (T i).toNat < 16; omega
    rw [nat_rowH 12 T hT]
    by_cases hS : ∀ i, i < 16 → Fig (S i)
    · have hF : ∀ i, i < 16 → (fun i => (S i).toNat) i < 16 := fun i hi => by have := hS i hi; unfold Fig at this; show (S i).toNat < 16; omega
      rw [nat_rowH 16 S hS]
      by_cases hw : wl (fun i => (S i).toNat) 16 = []
      · exact charts_C_yes _ hF hw _ hh w L LH
      · exact charts_B_yes _ hF hw _ hh w L LH
    · exact charts_A_yes S hS _ hh w L LH
  · by_cases hS : ∀ i, i < 16 → Fig (S i)
    · have hF : ∀ i, i < 16 → (fun i => (S i).toNat) i < 16 := fun i hi => by have := hS i hi; unfold Fig at this; show (S i).toNat < 16; omega
      rw [nat_rowH 16 S hS]
      by_cases hw : wl (fun i => (S i).toNat) 16 = []
      · exact charts_C_no _ hF hw T hT w L LH
      · exact charts_B_no _ hF hw T hT w L LH
    · exact charts_A_no S hS T hT w L LH
end Go.Proofs.YtcdbkgpgjjeoiaaDoor
