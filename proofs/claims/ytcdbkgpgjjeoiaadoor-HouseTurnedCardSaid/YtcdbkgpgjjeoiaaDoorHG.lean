/- Walks of package house: Ties, Aspects, Judge (printed by hg.py). -/
import Derived.Test.YtcdbkgpgjjeoiaaDoorHJ
import Derived.Test.YtcdbkgpgjjeoiaaDoorHP
namespace Go.Proofs.YtcdbkgpgjjeoiaaDoor
open Go Go.RowKit
set_option maxRecDepth 100000
set_option linter.unusedSimpArgs false
set_option linter.unusedVariables false

theorem skym_alloc_set {w2 : World} {m : Nat} {F : Nat → Nat} {cs vs : Array Value} {t : TypeId} (hM : SkyM w2 m 12 F) : SkyM ((w2.alloc (.cells cs t)).setRow w2.heap.size vs) m 12 F :=
  hM.block ((setRow_other _ _ _ _ (by have := hM.lt; omega)).trans (heap_alloc_old _ _ hM.lt))
theorem below_alloc_set {g : Nat} {w w2 : World} {cs vs : Array Value} {t : TypeId} (hB : Below g w w2) (hg : g ≤ w.heap.size) : Below g w ((w2.alloc (.cells cs t)).setRow w2.heap.size vs) := by
  have hs := hB.size
  exact below_setRow (hB.alloc (by omega) _) (by omega) _
set_option maxHeartbeats 800000 in
theorem Ties_h_err (S : Nat → Int) (a b e : Int) (he : (e != 0) = true) (HP : ∀ W, Calls Tryd.prog 54 #[.agg (irow 12 S), .int .i64 a, .int .i64 b] W fun e' w' => e' = .returned (.tuple #[.agg sky0, .int .i64 0, .int .i64 0, .int .i64 e]) ∧ Below W.heap.size W w') (w : World) :
    Calls Tryd.prog 22 #[.agg (irow 12 S), .int .i64 a, .int .i64 b] w fun e' w' => e' = .returned (.tuple #[.slice none 0 0, .int .i64 e]) ∧ Below w.heap.size w w' := by
  have HQ := hid HP
  have H0 := hid (heap_alloc_new w (.cells (irow 12 S) 24))
  have hb : Below w.heap.size w (w.alloc (.cells (irow 12 S) 24)) := (Below.refl _ _).alloc (Nat.le_refl _) _
  clear HP
  obtain ⟨g, hg⟩ : ∃ g, w.heap.size = g := ⟨_, rfl⟩
  go_enter Tryd.func22, Tryd.ntmps22
  go_wp2_with fail
  generalize w.alloc (.cells (irow 12 S) 24) = w1 at *
  rw [hg] at H0 hb
  have h0 := H0.out
  clear H0
  go_wp2_with (first
    | (refine ldrow arrHouses _ rfl rfl _ rfl _ _ h0 ?_)
    | (go_at_call 54; refine (HQ.out _).mono ?_; rintro e w2 ⟨rfl, hb2⟩; have hB2 := hb.trans (hb2.mono (Nat.le_of_lt (heap_lt h0))); clear h0 hb2)
    | (refine stcs _ _ rfl rfl _ _ sky0_size sky0_all rfl rfl _ (by rfl) _ (heap_alloc_new _ _) ?_))
  go_ret2
  refine ⟨rfl, ?_⟩
  rw [hg]
  have hs := hB2.size
  exact below_setRow (hB2.alloc (by omega) _) (by omega) _
set_option maxHeartbeats 1600000 in
theorem Ties_h_ok (h : Nat → Nat) (hh : ∀ i, i < 12 → h i < 16) (x y : Nat) (hx : x < 12) (hy : y < 12) (hxy : x ≠ y) (a b : Int) (ha : a = ((x : Nat) : Int) + 1) (hb' : b = ((y : Nat) : Int) + 1) (w : World) (LB : LaidB w) :
    Calls Tryd.prog 22 #[.agg (irow 12 (cst h)), .int .i64 a, .int .i64 b] w fun e w' => (∃ v, e = .returned (.tuple #[v, .int .i64 0]) ∧ ReadsT w' v (tiesR h x y)) ∧ Below w.heap.size w w' := by
  have HQ := hid (fun W => pair_c h hh x y hx hy hxy a b ha hb' W)
  have HM := hid (fun (m : Nat) (W : World) (hW : Below w.heap.size w W) (hM : SkyM W m 12 (onF h 12)) => ties_c h hh m x y hx hy hxy W (LB.below hW) hM)
  have H0 := hid (heap_alloc_new w (.cells (irow 12 (cst h)) 24))
  have hb : Below w.heap.size w (w.alloc (.cells (irow 12 (cst h)) 24)) := (Below.refl _ _).alloc (Nat.le_refl _) _
  clear hh ha hb' hx hy hxy LB
  obtain ⟨g, hg⟩ : ∃ g, w.heap.size = g := ⟨_, rfl⟩
  go_enter Tryd.func22, Tryd.ntmps22
  go_wp2_with fail
  generalize w.alloc (.cells (irow 12 (cst h)) 24) = w1 at *
  rw [hg] at H0 hb HM
  have h0 := H0.out
  clear H0
  go_wp2_with (first
    | (refine ldrow arrHouses _ rfl rfl _ rfl _ _ h0 ?_)
    | (go_at_call 54; refine (HQ.out _).mono ?_; rintro e w2 ⟨m, rfl, hM2, hm2, hb2⟩; have hB2 := hb.trans (hb2.mono (Nat.le_of_lt (heap_lt h0))); clear h0 hb2)
    | (refine stcs _ _ rfl rfl _ _ (show (sky h m).size = 13 from by simp [sky]) (sky_all h m) rfl rfl _ (by rfl) _ (heap_alloc_new _ _) ?_)
    | (refine ldsky _ rfl rfl _ rfl _ _ _ (setRow_heap _ _ _ _ _ _ (heap_alloc_new w2 _)) ?_)
    | (go_at_call 55; refine (HM.out m _ (below_alloc_set hB2 (by omega)) (skym_alloc_set hM2)).mono ?_; rintro e w5 ⟨v, rfl, hR, hb5⟩; have hB5 := (below_alloc_set (cs := _) (vs := sky h m) (t := 109) hB2 (by omega)).trans (hb5.mono (by have := hB2.size; simp; omega))))
  go_ret2
  exact ⟨⟨_, rfl, hR⟩, hg ▸ hB5⟩
set_option maxHeartbeats 800000 in
theorem Aspects_h_err (S : Nat → Int) (a b e : Int) (he : (e != 0) = true) (HP : ∀ W, Calls Tryd.prog 54 #[.agg (irow 12 S), .int .i64 a, .int .i64 b] W fun e' w' => e' = .returned (.tuple #[.agg sky0, .int .i64 0, .int .i64 0, .int .i64 e]) ∧ Below W.heap.size W w') (w : World) :
    Calls Tryd.prog 23 #[.agg (irow 12 S), .int .i64 a, .int .i64 b] w fun e' w' => e' = .returned (.tuple #[.slice none 0 0, .int .i64 e]) ∧ Below w.heap.size w w' := by
  have HQ := hid HP
  have H0 := hid (heap_alloc_new w (.cells (irow 12 S) 24))
  have hb : Below w.heap.size w (w.alloc (.cells (irow 12 S) 24)) := (Below.refl _ _).alloc (Nat.le_refl _) _
  clear HP
  obtain ⟨g, hg⟩ : ∃ g, w.heap.size = g := ⟨_, rfl⟩
  go_enter Tryd.func23, Tryd.ntmps23
  go_wp2_with fail
  generalize w.alloc (.cells (irow 12 S) 24) = w1 at *
  rw [hg] at H0 hb
  have h0 := H0.out
  clear H0
  go_wp2_with (first
    | (refine ldrow arrHouses _ rfl rfl _ rfl _ _ h0 ?_)
    | (go_at_call 54; refine (HQ.out _).mono ?_; rintro e w2 ⟨rfl, hb2⟩; have hB2 := hb.trans (hb2.mono (Nat.le_of_lt (heap_lt h0))); clear h0 hb2)
    | (refine stcs _ _ rfl rfl _ _ sky0_size sky0_all rfl rfl _ (by rfl) _ (heap_alloc_new _ _) ?_))
  go_ret2
  refine ⟨rfl, ?_⟩
  rw [hg]
  have hs := hB2.size
  exact below_setRow (hB2.alloc (by omega) _) (by omega) _
set_option maxHeartbeats 1600000 in
theorem Aspects_h_ok (h : Nat → Nat) (hh : ∀ i, i < 12 → h i < 16) (x y : Nat) (hx : x < 12) (hy : y < 12) (hxy : x ≠ y) (a b : Int) (ha : a = ((x : Nat) : Int) + 1) (hb' : b = ((y : Nat) : Int) + 1) (w : World) (LB : LaidB w) :
    Calls Tryd.prog 23 #[.agg (irow 12 (cst h)), .int .i64 a, .int .i64 b] w fun e w' => (∃ v, e = .returned (.tuple #[v, .int .i64 0]) ∧ ReadsT w' v (aspR h x y)) ∧ Below w.heap.size w w' := by
  have HQ := hid (fun W => pair_c h hh x y hx hy hxy a b ha hb' W)
  have HM := hid (fun (m : Nat) (W : World) (hW : Below w.heap.size w W) (hM : SkyM W m 12 (onF h 12)) => asps_c h hh m x y hx hy W (LB.below hW) hM)
  have H0 := hid (heap_alloc_new w (.cells (irow 12 (cst h)) 24))
  have hb : Below w.heap.size w (w.alloc (.cells (irow 12 (cst h)) 24)) := (Below.refl _ _).alloc (Nat.le_refl _) _
  clear hh ha hb' hx hy hxy LB
  obtain ⟨g, hg⟩ : ∃ g, w.heap.size = g := ⟨_, rfl⟩
  go_enter Tryd.func23, Tryd.ntmps23
  go_wp2_with fail
  generalize w.alloc (.cells (irow 12 (cst h)) 24) = w1 at *
  rw [hg] at H0 hb HM
  have h0 := H0.out
  clear H0
  go_wp2_with (first
    | (refine ldrow arrHouses _ rfl rfl _ rfl _ _ h0 ?_)
    | (go_at_call 54; refine (HQ.out _).mono ?_; rintro e w2 ⟨m, rfl, hM2, hm2, hb2⟩; have hB2 := hb.trans (hb2.mono (Nat.le_of_lt (heap_lt h0))); clear h0 hb2)
    | (refine stcs _ _ rfl rfl _ _ (show (sky h m).size = 13 from by simp [sky]) (sky_all h m) rfl rfl _ (by rfl) _ (heap_alloc_new _ _) ?_)
    | (refine ldsky _ rfl rfl _ rfl _ _ _ (setRow_heap _ _ _ _ _ _ (heap_alloc_new w2 _)) ?_)
    | (go_at_call 56; refine (HM.out m _ (below_alloc_set hB2 (by omega)) (skym_alloc_set hM2)).mono ?_; rintro e w5 ⟨v, rfl, hR, hb5⟩; have hB5 := (below_alloc_set (cs := _) (vs := sky h m) (t := 109) hB2 (by omega)).trans (hb5.mono (by have := hB2.size; simp; omega))))
  go_ret2
  exact ⟨⟨_, rfl, hR⟩, hg ▸ hB5⟩
set_option maxHeartbeats 800000 in
theorem Judge_h_err (S : Nat → Int) (a b e : Int) (he : (e != 0) = true) (HP : ∀ W, Calls Tryd.prog 54 #[.agg (irow 12 S), .int .i64 a, .int .i64 b] W fun e' w' => e' = .returned (.tuple #[.agg sky0, .int .i64 0, .int .i64 0, .int .i64 e]) ∧ Below W.heap.size W w') (w : World) :
    Calls Tryd.prog 24 #[.agg (irow 12 S), .int .i64 a, .int .i64 b] w fun e' w' => e' = .returned (.tuple #[.int .i64 0, .int .i64 e]) ∧ Below w.heap.size w w' := by
  have HQ := hid HP
  have H0 := hid (heap_alloc_new w (.cells (irow 12 S) 24))
  have hb : Below w.heap.size w (w.alloc (.cells (irow 12 S) 24)) := (Below.refl _ _).alloc (Nat.le_refl _) _
  clear HP
  obtain ⟨g, hg⟩ : ∃ g, w.heap.size = g := ⟨_, rfl⟩
  go_enter Tryd.func24, Tryd.ntmps24
  go_wp2_with fail
  generalize w.alloc (.cells (irow 12 S) 24) = w1 at *
  rw [hg] at H0 hb
  have h0 := H0.out
  clear H0
  go_wp2_with (first
    | (refine ldrow arrHouses _ rfl rfl _ rfl _ _ h0 ?_)
    | (go_at_call 54; refine (HQ.out _).mono ?_; rintro e w2 ⟨rfl, hb2⟩; have hB2 := hb.trans (hb2.mono (Nat.le_of_lt (heap_lt h0))); clear h0 hb2)
    | (refine stcs _ _ rfl rfl _ _ sky0_size sky0_all rfl rfl _ (by rfl) _ (heap_alloc_new _ _) ?_))
  go_ret2
  refine ⟨rfl, ?_⟩
  rw [hg]
  have hs := hB2.size
  exact below_setRow (hB2.alloc (by omega) _) (by omega) _
set_option maxHeartbeats 1600000 in
theorem Judge_h_ok (h : Nat → Nat) (hh : ∀ i, i < 12 → h i < 16) (x y : Nat) (hx : x < 12) (hy : y < 12) (hxy : x ≠ y) (a b : Int) (ha : a = ((x : Nat) : Int) + 1) (hb' : b = ((y : Nat) : Int) + 1) (w : World) (LB : LaidB w) :
    Calls Tryd.prog 24 #[.agg (irow 12 (cst h)), .int .i64 a, .int .i64 b] w fun e w' => e = .returned (.tuple #[.int .i64 ((judgeN h x y : Nat) : Int), .int .i64 0]) ∧ Below w.heap.size w w' := by
  have HQ := hid (fun W => pair_c h hh x y hx hy hxy a b ha hb' W)
  have HM := hid (fun (m : Nat) (W : World) (hW : Below w.heap.size w W) (hM : SkyM W m 12 (onF h 12)) => judge_c h hh m x y hx hy hxy W (LB.below hW) hM)
  have H0 := hid (heap_alloc_new w (.cells (irow 12 (cst h)) 24))
  have hb : Below w.heap.size w (w.alloc (.cells (irow 12 (cst h)) 24)) := (Below.refl _ _).alloc (Nat.le_refl _) _
  clear hh ha hb' hx hy hxy LB
  obtain ⟨g, hg⟩ : ∃ g, w.heap.size = g := ⟨_, rfl⟩
  go_enter Tryd.func24, Tryd.ntmps24
  go_wp2_with fail
  generalize w.alloc (.cells (irow 12 (cst h)) 24) = w1 at *
  rw [hg] at H0 hb HM
  have h0 := H0.out
  clear H0
  go_wp2_with (first
    | (refine ldrow arrHouses _ rfl rfl _ rfl _ _ h0 ?_)
    | (go_at_call 54; refine (HQ.out _).mono ?_; rintro e w2 ⟨m, rfl, hM2, hm2, hb2⟩; have hB2 := hb.trans (hb2.mono (Nat.le_of_lt (heap_lt h0))); clear h0 hb2)
    | (refine stcs _ _ rfl rfl _ _ (show (sky h m).size = 13 from by simp [sky]) (sky_all h m) rfl rfl _ (by rfl) _ (heap_alloc_new _ _) ?_)
    | (refine ldsky _ rfl rfl _ rfl _ _ _ (setRow_heap _ _ _ _ _ _ (heap_alloc_new w2 _)) ?_)
    | (go_at_call 57; refine (HM.out m _ (below_alloc_set hB2 (by omega)) (skym_alloc_set hM2)).mono ?_; rintro e w5 ⟨rfl, hb5⟩; have hB5 := (below_alloc_set (cs := _) (vs := sky h m) (t := 109) hB2 (by omega)).trans (hb5.mono (by have := hB2.size; simp; omega))))
  go_ret2
  exact ⟨rfl, hg ▸ hB5⟩
end Go.Proofs.YtcdbkgpgjjeoiaaDoor
