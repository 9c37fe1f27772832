/- Lemmas for WitnessDraws: part 25. -/
import Derived.Great.BuildSlice
import Derived.Test.YtbcileppebpamaaGreatDoorKb24
set_option linter.unusedSimpArgs false
set_option linter.unusedVariables false
namespace Go.Proofs.YtbcileppebpamaaGreatDoor
open Go Go.RowKit Go.Shelf
set_option maxRecDepth 100000
theorem four_no (b n : Int) (h : ¬ (inR b 1 1000000000 = true ∧ inR n 1 30 = true)) : b < 1 ∨ (¬ b < 1 ∧ 1000000000 < b) ∨ (¬ b < 1 ∧ ¬ 1000000000 < b ∧ n < 1) ∨ (¬ b < 1 ∧ ¬ 1000000000 < b ∧ ¬ n < 1 ∧ 30 < n) := by
  simp only [inR, Bool.and_eq_true, decide_eq_true_eq] at h
  omega
theorem hashL_size (l : List UInt8) : (⟨(hashL l).toArray⟩ : ByteArray).size ≤ 1000000 :=
  size_hash _ (by show isHashL (hashL l).toArray.toList = true; rw [List.toList_toArray]; exact isHash_hash l)
theorem typ_ne {W : World} {g k : Nat} {c d : Array Value} {T U : TypeId} {y z : Nat × Nat} (h1 : W.heap[g]? = some (.cells c T y)) (h2 : W.heap[k]? = some (.cells d U z)) (h : T ≠ U) : g ≠ k := by
  rintro rfl
  rw [h1] at h2
  exact h (Obj.cells.inj (Option.some.inj h2)).2.1
theorem dd_one (k : Nat) (p q v : Int) (h s : ByteArray) : (#[.int .u8 ((k : Nat) : Int), .int .i64 p, .string h, .int .i64 q, .int .i64 v, .string s] : Array Value).all (·.oneCell') = true := by simp [Value.oneCell']
set_option maxHeartbeats 64000000 in
theorem lawDraws (b n : Int) (u : Value) (ds : List Dd) (w : World) (hbr : -9223372036854775808 ≤ b ∧ b ≤ 9223372036854775807) (hnr : -9223372036854775808 ≤ n ∧ n ≤ 9223372036854775807) (hr : ReadsDd w u ds) (hl : ds.length ≤ maxLen) (hds : ∀ x ∈ ds, x.k < 256 ∧ x.h.size ≤ maxLen ∧ x.s.size ≤ maxLen) (L : LaidW w) (hML : ∃ m, w.cell? ⟨2, 0, none⟩ = some (.int .i64 m)) :
    Calls Tryz.prog 5 #[.int .i64 b, .int .i64 n, u] w fun e w' => e = .returned (.bool true) ∧ Below w.heap.size w w' := by
  obtain ⟨p, cc, rfl⟩ := hr.form
  obtain ⟨m, hm⟩ : ∃ m, ds.length = m := ⟨_, rfl⟩
  unfold maxLen at hl hds
  rw [hm] at hr hl ⊢
  have HR := hid hr
  have HM := hid hm
  have HLL := hid L
  have HML := hid hML
  have HDS := hid hds
  have HK := hid (fun V (hV : Below w.heap.size w V) => known_c V (HLL.out.below hV))
  clear hr hm L hML hds
  by_cases h40 : 40 < m
  · as_aux_lemma =>
    have d1 : decide ((40 : Int) < ((m : Nat) : Int)) = true := decide_eq_true (by omega)
    have d2 : decide (40 < m) = true := decide_eq_true h40
    go_enter Tryz.func5, Tryz.ntmps5
    go_wp2_with (go_at_call 7; refine (HK.out w (Below.refl _ _)).mono ?_; rintro e w2 ⟨rfl, hb2⟩; have HB2 := hid hb2; clear hb2)
    go_ret
    exact ⟨rfl, HB2.out⟩
  have d1 : decide ((40 : Int) < ((m : Nat) : Int)) = false := decide_eq_false (by omega)
  have d2 : decide (40 < m) = false := decide_eq_false h40
  by_cases hin : inR b 1 1000000000 = true ∧ inR n 1 30 = true
  rotate_left
  · have HNO := hid (New_no b n w hin)
    have h4 := four_no b n hin
    clear hin
    rcases h4 with h | ⟨g1, h⟩ | ⟨g1, g2, h⟩ | ⟨g1, g2, g3, h⟩
    · as_aux_lemma =>
      have c1 : decide (b < 1) = true := decide_eq_true h
      go_enter Tryz.func5, Tryz.ntmps5
      go_wp2_with (first
        | (go_at_call 16; refine HNO.out.mono ?_; rintro e w1 ⟨rfl, rfl⟩)
        | (go_at_call 7; refine (HK.out w (Below.refl _ _)).mono ?_; rintro e w2 ⟨rfl, hb2⟩; have HB2 := hid hb2; clear hb2))
      go_ret
      exact ⟨rfl, HB2.out⟩
    · as_aux_lemma =>
      have c1 : decide (b < 1) = false := decide_eq_false g1
      have c2 : decide (1000000000 < b) = true := decide_eq_true h
      go_enter Tryz.func5, Tryz.ntmps5
      go_wp2_with (first
        | (go_at_call 16; refine HNO.out.mono ?_; rintro e w1 ⟨rfl, rfl⟩)
        | (go_at_call 7; refine (HK.out w (Below.refl _ _)).mono ?_; rintro e w2 ⟨rfl, hb2⟩; have HB2 := hid hb2; clear hb2))
      go_ret
      exact ⟨rfl, HB2.out⟩
    · as_aux_lemma =>
      have c1 : decide (b < 1) = false := decide_eq_false g1
      have c2 : decide (1000000000 < b) = false := decide_eq_false g2
      have c3 : decide (n < 1) = true := decide_eq_true h
      go_enter Tryz.func5, Tryz.ntmps5
      go_wp2_with (first
        | (go_at_call 16; refine HNO.out.mono ?_; rintro e w1 ⟨rfl, rfl⟩)
        | (go_at_call 7; refine (HK.out w (Below.refl _ _)).mono ?_; rintro e w2 ⟨rfl, hb2⟩; have HB2 := hid hb2; clear hb2))
      go_ret
      exact ⟨rfl, HB2.out⟩
    · as_aux_lemma =>
      have c1 : decide (b < 1) = false := decide_eq_false g1
      have c2 : decide (1000000000 < b) = false := decide_eq_false g2
      have c3 : decide (n < 1) = false := decide_eq_false g3
      have c4 : decide (30 < n) = true := decide_eq_true h
      go_enter Tryz.func5, Tryz.ntmps5
      go_wp2_with (first
        | (go_at_call 16; refine HNO.out.mono ?_; rintro e w1 ⟨rfl, rfl⟩)
        | (go_at_call 7; refine (HK.out w (Below.refl _ _)).mono ?_; rintro e w2 ⟨rfl, hb2⟩; have HB2 := hid hb2; clear hb2))
      go_ret
      exact ⟨rfl, HB2.out⟩
  have hbI := hin.1
  have hnI := hin.2
  simp only [inR, Bool.and_eq_true, decide_eq_true_eq] at hbI hnI
  obtain ⟨bl, rfl⟩ : ∃ z : Nat, b = z := ⟨b.toNat, by omega⟩
  obtain ⟨nn, rfl⟩ : ∃ z : Nat, n = z := ⟨n.toNat, by omega⟩
  have hb : 1 ≤ bl ∧ bl ≤ 1000000000 := by omega
  have hn : 1 ≤ nn ∧ nn ≤ 30 := by omega
  have c1 : decide (((bl : Nat) : Int) < 1) = false := decide_eq_false (by omega)
  have c2 : decide ((1000000000 : Int) < ((bl : Nat) : Int)) = false := decide_eq_false (by omega)
  have c3 : decide (((nn : Nat) : Int) < 1) = false := decide_eq_false (by omega)
  have c4 : decide ((30 : Int) < ((nn : Nat) : Int)) = false := decide_eq_false (by omega)
  have c1' : ¬ bl = 0 := by omega
  have c2' : ¬ 1000000000 < bl := by omega
  have c3' : ¬ nn = 0 := by omega
  have c4' : ¬ 30 < nn := by omega
  have hN := New_c bl nn hb hn w HLL.out
  obtain ⟨B, hB⟩ : ∃ B, w.heap.size = B := ⟨_, rfl⟩
  obtain ⟨b1, hb1⟩ : ∃ b1, B + 1 = b1 := ⟨_, rfl⟩
  rw [hB, hb1] at hN
  have HN := hid hN
  have HB := hid hB
  have HB1 := hid hb1
  have HBN := hid (And.intro hb hn)
  have HT := hid (fun V (hV : Below w.heap.size w V) (D : DS) (ls : List RL) (v : Value) (hd : DrawAt V B b1 B D) (hR : Rel bl nn D ls) (hB : Built bl nn ls) (hl : ls.length ≤ 41) (hr : ReadsL V v ls) => told_c V (HLL.out.below hV) (max_below HML.out hV) hd hR hb hn hB hl hr)
  clear hN hB hb1 hin hbr hnr hbI hnI hb hn
  go_enter Tryz.func5, Tryz.ntmps5
  go_wp2_with (first
    | (go_at_call 16; refine HN.out.mono ?_; rintro e w1 ⟨rfl, hd1, hw1⟩; have HD1 := hid (And.intro hd1 (show Below w.heap.size w w1 from HB.out ▸ hw1)); clear hd1 hw1)
    | (go_at_call 17; refine (HT.out w1 HD1.out.2 (DS.start bl nn) [] (.slice none 0 0) HD1.out.1 (Rel.start bl nn (by have := HBN.out; omega)) (Built.nil _ _) (by simp) (.inl ⟨rfl, none, 0, rfl⟩)).mono ?_; rintro e w2 ⟨rfl, hw2⟩; have hdi : DrawAt w2 B b1 B (DS.start bl nn) := HD1.out.1.below hw2; have HD2 := hid (And.intro hdi (HD1.out.2.trans (hw2.mono HD1.out.2.size))); clear hw2 hdi)
    | (refine wpList_store_rowTo rfl 49 (.tmp 10) (.tmp 74) rfl rfl w2.heap.size #[.int .i64 ((bl : Nat) : Int), .int .i64 ((nn : Nat) : Int), .slice none 0 0] rfl rfl 49 _ (heap_alloc_new w2 _) (by kernel_rfl) rfl (draw_one _ _ _ _ _) ?_; obtain ⟨hq3, hb3⟩ := alloc_row (W := w2) (cs := #[.int .i64 ((bl : Nat) : Int), .int .i64 ((nn : Nat) : Int), .slice none 0 0]) (T := 49) (old := #[.int .i64 0, .int .i64 0, .slice none 0 0]) rfl; generalize (w2.alloc (.cells #[.int .i64 0, .int .i64 0, .slice none 0 0] 49)).setRow w2.heap.size #[.int .i64 ((bl : Nat) : Int), .int .i64 ((nn : Nat) : Int), .slice none 0 0] = w3 at hq3 hb3 ⊢; have hw2 := HD2.out.2.size; have hd3 := HD2.out.1.below hb3; have hw3 := HD2.out.2.trans (hb3.mono hw2); obtain ⟨gr, hgr⟩ : ∃ q, w2.heap.size = q := ⟨_, rfl⟩; rw [hgr] at hq3 hw2 ⊢; have HI0 := hid (show DI w w3 B b1 B gr bl nn (DS.start bl nn) [] (.slice none 0 0) from ⟨hd3, hq3, .inl ⟨rfl, none, 0, rfl⟩, hw3, Nat.le_of_eq HB.out, hw2, by have := HB1.out; omega, Nat.le_refl _⟩); clear hq3 hb3 hw2 hd3 hw3 hgr))
  go_loopw [11] (fun ix wr => ∃ (i : Nat) (D : DS) (ls : List RL) (v : Value), ix = .int .i64 ((i : Nat) : Int) ∧ Aside (i ≤ m ∧ ls.length ≤ i ∧ Built bl nn ls ∧ Rel bl nn D ls) ∧ DI w wr B b1 B gr bl nn D ls v) (fun ix _ => m - (intOf ix).toNat)
  case atStart => exact ⟨0, _, [], _, rfl, ⟨by omega, Nat.le_refl _, Built.nil _ _, Rel.start bl nn (by have := HBN.out; omega)⟩, HI0.out⟩
  case round =>
    clear HI0
    obtain ⟨i, D, ls, v, rfl, hA, hI⟩ := hrel
    have HA := hid hA
    have HI := hid hI
    rcases Nat.lt_or_ge i m with hlti | hge
    · have hin : decide (((i : Nat) : Int) < ((m : Nat) : Int)) = true := decide_eq_true (by omega)
      have hin' : ((i : Nat) : Int) < ((m : Nat) : Int) := by omega
      have hi0 : (0 : Int) ≤ ((i : Nat) : Int) := by omega
      have hiw : IntKind.i64.wrap (((i : Nat) : Int) + 1) = ((i + 1 : Nat) : Int) := (IntWalk.i64_in _ (by omega)).trans (by omega)
      obtain ⟨x, hx⟩ : ∃ x, ds[i]? = some x := ⟨_, List.getElem?_eq_getElem (by rw [HM.out]; exact hlti)⟩
      obtain ⟨hx1, hx2, hx3⟩ := HDS.out x (List.mem_of_getElem? hx)
      obtain ⟨bk, o, rfl, e0, e1, e2, e3, e4, e5⟩ := HR.out.at' hI.bw hx
      obtain ⟨kd, xp, xh, xq, xv, xs⟩ := x
      simp only at hx1 hx2 hx3 e0 e1 e2 e3 e4 e5
      obtain ⟨lh, hlh⟩ : ∃ z, xh.size = z := ⟨_, rfl⟩
      obtain ⟨lz, hlz⟩ : ∃ z, xs.size = z := ⟨_, rfl⟩
      rw [hlh] at hx2
      rw [hlz] at hx3
      clear hA hI hx
      obtain ⟨pv, cv, hv0⟩ := HI.out.l.form
      obtain ⟨lv, hlv⟩ : ∃ z, ls.length = z := ⟨_, rfl⟩
      rw [hlv] at hv0
      subst hv0
      clear hlv
      by_cases q1 : 100 < lh
      · as_aux_lemma =>
        have f1 : decide ((100 : Int) < ((lh : Nat) : Int)) = true := decide_eq_true (by omega)
        have f1' : ((100 : Int) < ((lh : Nat) : Int)) := by omega
        go_wp2_with (first
          | (refine wpList_store_rowTo rfl 51 (.tmp 12) (.tmp 84) rfl rfl wr.heap.size #[.int .u8 ((kd : Nat) : Int), .int .i64 xp, .string xh, .int .i64 xq, .int .i64 xv, .string xs] rfl rfl 51 _ (heap_alloc_new wr _) (by kernel_rfl) rfl (dd_one _ _ _ _ _ _) ?_; obtain ⟨hq1, hb1⟩ := alloc_row (W := wr) (cs := #[.int .u8 ((kd : Nat) : Int), .int .i64 xp, .string xh, .int .i64 xq, .int .i64 xv, .string xs]) (T := 51) (old := #[.int .u8 0, .int .i64 0, .string ⟨#[]⟩, .int .i64 0, .int .i64 0, .string ⟨#[]⟩]) rfl; generalize (wr.alloc (.cells #[.int .u8 0, .int .i64 0, .string ⟨#[]⟩, .int .i64 0, .int .i64 0, .string ⟨#[]⟩] 51)).setRow wr.heap.size #[.int .u8 ((kd : Nat) : Int), .int .i64 xp, .string xh, .int .i64 xq, .int .i64 xv, .string xs] = w1 at hq1 hb1 ⊢; have hi1 := HI.out.below hb1; obtain ⟨gx, hgx⟩ : ∃ q, wr.heap.size = q := ⟨_, rfl⟩; rw [hgx] at hq1 ⊢; have HI1 := hid hi1; have HX1 := hid hq1; clear hi1 hq1 hb1 hgx e0 e1 e2 e3 e4 e5; have k0 := cell_of_row _ _ 0 _ _ _ HX1.out; have k1 := cell_of_row _ _ 1 _ _ _ HX1.out; have k2 := cell_of_row _ _ 2 _ _ _ HX1.out; have k3 := cell_of_row _ _ 3 _ _ _ HX1.out; have k4 := cell_of_row _ _ 4 _ _ _ HX1.out; have k5 := cell_of_row _ _ 5 _ _ _ HX1.out; have z0 := cell_of_row _ _ 0 _ _ _ HI1.out.gg; have z1 := cell_of_row _ _ 1 _ _ _ HI1.out.gg; have z2 := cell_of_row _ _ 2 _ _ _ HI1.out.gg)
          | (go_at_call 7; refine (HK.out w1 HI1.out.bw).mono ?_; rintro e w2 ⟨rfl, hb2⟩; have HB2 := hid (HI1.out.bw.trans (hb2.mono HI1.out.bw.size)); clear hb2))
        go_ret
        exact ⟨rfl, HB2.out⟩
      have f1 : decide ((100 : Int) < ((lh : Nat) : Int)) = false := decide_eq_false (by omega)
      have f1' : ¬ ((100 : Int) < ((lh : Nat) : Int)) := by omega
      by_cases q2 : 100 < lz
      · as_aux_lemma =>
        have f2 : decide ((100 : Int) < ((lz : Nat) : Int)) = true := decide_eq_true (by omega)
        have f2' : ((100 : Int) < ((lz : Nat) : Int)) := by omega
        go_wp2_with (first
          | (refine wpList_store_rowTo rfl 51 (.tmp 12) (.tmp 84) rfl rfl wr.heap.size #[.int .u8 ((kd : Nat) : Int), .int .i64 xp, .string xh, .int .i64 xq, .int .i64 xv, .string xs] rfl rfl 51 _ (heap_alloc_new wr _) (by kernel_rfl) rfl (dd_one _ _ _ _ _ _) ?_; obtain ⟨hq1, hb1⟩ := alloc_row (W := wr) (cs := #[.int .u8 ((kd : Nat) : Int), .int .i64 xp, .string xh, .int .i64 xq, .int .i64 xv, .string xs]) (T := 51) (old := #[.int .u8 0, .int .i64 0, .string ⟨#[]⟩, .int .i64 0, .int .i64 0, .string ⟨#[]⟩]) rfl; generalize (wr.alloc (.cells #[.int .u8 0, .int .i64 0, .string ⟨#[]⟩, .int .i64 0, .int .i64 0, .string ⟨#[]⟩] 51)).setRow wr.heap.size #[.int .u8 ((kd : Nat) : Int), .int .i64 xp, .string xh, .int .i64 xq, .int .i64 xv, .string xs] = w1 at hq1 hb1 ⊢; have hi1 := HI.out.below hb1; obtain ⟨gx, hgx⟩ : ∃ q, wr.heap.size = q := ⟨_, rfl⟩; rw [hgx] at hq1 ⊢; have HI1 := hid hi1; have HX1 := hid hq1; clear hi1 hq1 hb1 hgx e0 e1 e2 e3 e4 e5; have k0 := cell_of_row _ _ 0 _ _ _ HX1.out; have k1 := cell_of_row _ _ 1 _ _ _ HX1.out; have k2 := cell_of_row _ _ 2 _ _ _ HX1.out; have k3 := cell_of_row _ _ 3 _ _ _ HX1.out; have k4 := cell_of_row _ _ 4 _ _ _ HX1.out; have k5 := cell_of_row _ _ 5 _ _ _ HX1.out; have z0 := cell_of_row _ _ 0 _ _ _ HI1.out.gg; have z1 := cell_of_row _ _ 1 _ _ _ HI1.out.gg; have z2 := cell_of_row _ _ 2 _ _ _ HI1.out.gg)
          | (go_at_call 7; refine (HK.out w1 HI1.out.bw).mono ?_; rintro e w2 ⟨rfl, hb2⟩; have HB2 := hid (HI1.out.bw.trans (hb2.mono HI1.out.bw.size)); clear hb2))
        go_ret
        exact ⟨rfl, HB2.out⟩
      have f2 : decide ((100 : Int) < ((lz : Nat) : Int)) = false := decide_eq_false (by omega)
      have f2' : ¬ ((100 : Int) < ((lz : Nat) : Int)) := by omega
      obtain ⟨r4, hr4⟩ : ∃ r, kd % 4 = r := ⟨_, rfl⟩
      have hk4 : ((kd : Nat) : Int) % 4 = ((r4 : Nat) : Int) := by omega
      have hr4' : r4 < 4 := by omega
      rcases (show r4 = 0 ∨ r4 = 1 ∨ r4 = 2 ∨ r4 = 3 by omega) with rfl | rfl | rfl | rfl
      · as_aux_lemma =>
        have hk : ((kd : Nat) : Int) % 4 = 0 := hk4
        clear hk4 hr4 hr4'
        obtain ⟨E, hE⟩ : ∃ E, addE bl nn ls ⟨1, xh, xp, 0, ⟨#[]⟩⟩ = E := ⟨_, rfl⟩
        obtain ⟨ls2, hls2⟩ : ∃ q, addL bl nn ls ⟨1, xh, xp, 0, ⟨#[]⟩⟩ = q := ⟨_, rfl⟩
        obtain ⟨D2, hD2⟩ : ∃ q, D.seal xp xh = q := ⟨_, rfl⟩
        have hR2 : Rel bl nn D2 ls2 := by rw [← hD2, ← hls2]; exact HA.out.2.2.2.sealA xp xh 0 ⟨#[]⟩
        have hB2 : Built bl nn ls2 := by rw [← hls2]; exact HA.out.2.2.1.add _ (.inl ⟨rfl, rfl, rfl⟩)
        have hn2 : ls2.length ≤ i + 1 := by
          rw [← hls2, addL]
          have := HA.out.2.1
          split
          · rw [List.length_append, List.length_singleton]; omega
          · omega
        have hadd := fun V (hV : ReadsL V (.slice pv lv cv) ls) => radd_c bl nn HBN.out.1.2 (by have := HBN.out; omega) (.slice pv lv cv) ls ⟨1, xh, xp, 0, ⟨#[]⟩⟩ (by simp) V hV (by have := HA.out.1; have := HA.out.2.1; omega) (by rw [hlh]; omega) (by show (0 : Nat) ≤ 1000000; omega)
        rw [hE, hls2] at hadd
        simp only [lineC] at hadd
        have HADD := hid hadd
        have HS2 := hid (And.intro hR2 (And.intro hB2 hn2))
        have eE : (E != E) = false := by simp
        have FL := hid trivial
        have hsd := fun V (hV : DI w V B b1 B gr bl nn D ls (.slice pv lv cv)) => SealD_c hV.d xp xh hV.sz hV.Bb hV.Bq (fun W' h => HLL.out.below (hV.bw.trans (h.mono hV.wB))) (by rw [HA.out.2.2.2.len]; exact HBN.out.2.2) (by rw [hlh]; omega) (by rw [HA.out.2.2.2.lsl]; have := HA.out.1; have := HA.out.2.1; omega) (by rw [HA.out.2.2.2.sl]; have := cntL_le 1 ls nn; have := HBN.out; omega)
        simp only [HA.out.2.2.2.sealE xp xh 0 ⟨#[]⟩] at hsd
        rw [hE, hD2] at hsd
        have HSD := hid hsd
        clear hE hls2 hD2 hR2 hB2 hn2 hadd hsd
        go_wp2_with (first
          | (refine wpList_store_rowTo rfl 51 (.tmp 12) (.tmp 84) rfl rfl wr.heap.size #[.int .u8 ((kd : Nat) : Int), .int .i64 xp, .string xh, .int .i64 xq, .int .i64 xv, .string xs] rfl rfl 51 _ (heap_alloc_new wr _) (by kernel_rfl) rfl (dd_one _ _ _ _ _ _) ?_; obtain ⟨hq1, hb1⟩ := alloc_row (W := wr) (cs := #[.int .u8 ((kd : Nat) : Int), .int .i64 xp, .string xh, .int .i64 xq, .int .i64 xv, .string xs]) (T := 51) (old := #[.int .u8 0, .int .i64 0, .string ⟨#[]⟩, .int .i64 0, .int .i64 0, .string ⟨#[]⟩]) rfl; generalize (wr.alloc (.cells #[.int .u8 0, .int .i64 0, .string ⟨#[]⟩, .int .i64 0, .int .i64 0, .string ⟨#[]⟩] 51)).setRow wr.heap.size #[.int .u8 ((kd : Nat) : Int), .int .i64 xp, .string xh, .int .i64 xq, .int .i64 xv, .string xs] = w1 at hq1 hb1 ⊢; have hi1 := HI.out.below hb1; obtain ⟨gx, hgx⟩ : ∃ q, wr.heap.size = q := ⟨_, rfl⟩; rw [hgx] at hq1 ⊢; have HI1 := hid hi1; have HX1 := hid hq1; clear hi1 hq1 hb1 hgx e0 e1 e2 e3 e4 e5; have k0 := cell_of_row _ _ 0 _ _ _ HX1.out; have k1 := cell_of_row _ _ 1 _ _ _ HX1.out; have k2 := cell_of_row _ _ 2 _ _ _ HX1.out; have k3 := cell_of_row _ _ 3 _ _ _ HX1.out; have k4 := cell_of_row _ _ 4 _ _ _ HX1.out; have k5 := cell_of_row _ _ 5 _ _ _ HX1.out; have z0 := cell_of_row _ _ 0 _ _ _ HI1.out.gg; have z1 := cell_of_row _ _ 1 _ _ _ HI1.out.gg; have z2 := cell_of_row _ _ 2 _ _ _ HI1.out.gg)
          | (go_at_call 18; have hq := FL; clear hq FL; refine (sealNil_c _ _ _).mono ?_; rintro e wz ⟨rfl, rfl⟩)
          | (go_at_call 18; refine (HSD.out w1 HI1.out).mono ?_; rintro e w2 ⟨rfl, hd2, ho2⟩; have HI2 := hid (HI1.out.only hd2 ho2); have HX2 := hid (ho2.kept HI1.out.d HX1.out (by decide) (by decide) (by decide)); clear k0 k1 k2 k3 k4 k5 z0 z1 z2 hd2 ho2; have k0 := cell_of_row _ _ 0 _ _ _ HX2.out; have k1 := cell_of_row _ _ 1 _ _ _ HX2.out; have k2 := cell_of_row _ _ 2 _ _ _ HX2.out; have k3 := cell_of_row _ _ 3 _ _ _ HX2.out; have k4 := cell_of_row _ _ 4 _ _ _ HX2.out; have k5 := cell_of_row _ _ 5 _ _ _ HX2.out; have z0 := cell_of_row _ _ 0 _ _ _ HI2.out.gg; have z1 := cell_of_row _ _ 1 _ _ _ HI2.out.gg; have z2 := cell_of_row _ _ 2 _ _ _ HI2.out.gg)
          | (go_at_call 19; refine (HADD.out w2 HI2.out.l).mono ?_; rintro e w3 ⟨v', rfl, hl3, hb3⟩; obtain ⟨p', c', rfl⟩ := hl3.form; obtain ⟨dl, hdl⟩ : ∃ dl, ls2.length = dl := ⟨_, rfl⟩; rw [hdl] at hl3 ⊢; have HI3 := hid (HI2.out.below hb3); have HX3 := hid (heap_below hb3 HX2.out (heap_lt HX2.out)); have HL3 := hid hl3; clear k0 k1 k2 k3 k4 k5 z0 z1 z2 hl3 hb3 hdl; have k0 := cell_of_row _ _ 0 _ _ _ HX3.out; have k1 := cell_of_row _ _ 1 _ _ _ HX3.out; have k2 := cell_of_row _ _ 2 _ _ _ HX3.out; have k3 := cell_of_row _ _ 3 _ _ _ HX3.out; have k4 := cell_of_row _ _ 4 _ _ _ HX3.out; have k5 := cell_of_row _ _ 5 _ _ _ HX3.out; have z0 := cell_of_row _ _ 0 _ _ _ HI3.out.gg; have z1 := cell_of_row _ _ 1 _ _ _ HI3.out.gg; have z2 := cell_of_row _ _ 2 _ _ _ HI3.out.gg)
          | (refine wpList_store_rowTo rfl 49 (.tmp 10) (.tmp 148) rfl rfl gr #[.int .i64 ((bl : Nat) : Int), .int .i64 ((nn : Nat) : Int), .slice p' dl c'] rfl rfl 49 _ HI3.out.gg (by kernel_rfl) rfl (draw_one _ _ _ _ _) ?_; have hi4 := HI3.out.set HL3.out; have hx4 := (setRow_ne (cs := #[.int .i64 ((bl : Nat) : Int), .int .i64 ((nn : Nat) : Int), .slice p' dl c']) (typ_ne HX3.out HI3.out.gg (by decide))).trans HX3.out; generalize w3.setRow gr #[.int .i64 ((bl : Nat) : Int), .int .i64 ((nn : Nat) : Int), .slice p' dl c'] = w4 at hi4 hx4 ⊢; have HI4 := hid hi4; have HX4 := hid hx4; clear k0 k1 k2 k3 k4 k5 z0 z1 z2 hi4 hx4; have k0 := cell_of_row _ _ 0 _ _ _ HX4.out; have k1 := cell_of_row _ _ 1 _ _ _ HX4.out; have k2 := cell_of_row _ _ 2 _ _ _ HX4.out; have k3 := cell_of_row _ _ 3 _ _ _ HX4.out; have k4 := cell_of_row _ _ 4 _ _ _ HX4.out; have k5 := cell_of_row _ _ 5 _ _ _ HX4.out; have z0 := cell_of_row _ _ 0 _ _ _ HI4.out.gg; have z1 := cell_of_row _ _ 1 _ _ _ HI4.out.gg; have z2 := cell_of_row _ _ 2 _ _ _ HI4.out.gg)
          | (go_at_call 17; refine (HT.out w4 HI4.out.bw D2 ls2 (.slice p' dl c') HI4.out.d HS2.out.1 HS2.out.2.1 (by have := HS2.out.2.2; omega) HI4.out.l).mono ?_; rintro e w5 ⟨rfl, hb5⟩; have HI5 := hid (HI4.out.below hb5); have HX5 := hid (heap_below hb5 HX4.out (heap_lt HX4.out)); clear k0 k1 k2 k3 k4 k5 z0 z1 z2 hb5; have k0 := cell_of_row _ _ 0 _ _ _ HX5.out; have k1 := cell_of_row _ _ 1 _ _ _ HX5.out; have k2 := cell_of_row _ _ 2 _ _ _ HX5.out; have k3 := cell_of_row _ _ 3 _ _ _ HX5.out; have k4 := cell_of_row _ _ 4 _ _ _ HX5.out; have k5 := cell_of_row _ _ 5 _ _ _ HX5.out; have z0 := cell_of_row _ _ 0 _ _ _ HI5.out.gg; have z1 := cell_of_row _ _ 1 _ _ _ HI5.out.gg; have z2 := cell_of_row _ _ 2 _ _ _ HI5.out.gg))
        go_roundw
        case rel => exact ⟨i + 1, D2, ls2, _, rfl, ⟨by omega, HS2.out.2.2, HS2.out.2.1, HS2.out.1⟩, HI5.out⟩
        case measure => simp only [intOf, Int.toNat_natCast]; omega
      · have hk : ((kd : Nat) : Int) % 4 = 1 := hk4
        clear hk4 hr4 hr4'
        have hbx := fun V => rbox_c xq xv xs (by rw [hlz]; omega) V
        cases hbb : isBoxL xq xv xs.data.toList with
        | false =>
          as_aux_lemma =>
          rw [hbb] at hbx
          have HBX := hid hbx
          clear hbx hbb
          obtain ⟨E, hE⟩ : ∃ E, addE bl nn ls ⟨1, xh, xp, 0, ⟨#[]⟩⟩ = E := ⟨_, rfl⟩
          obtain ⟨ls2, hls2⟩ : ∃ q, addL bl nn ls ⟨1, xh, xp, 0, ⟨#[]⟩⟩ = q := ⟨_, rfl⟩
          obtain ⟨D2, hD2⟩ : ∃ q, D.seal xp xh = q := ⟨_, rfl⟩
          have hR2 : Rel bl nn D2 ls2 := by rw [← hD2, ← hls2]; exact HA.out.2.2.2.sealA xp xh 0 ⟨#[]⟩
          have hB2 : Built bl nn ls2 := by rw [← hls2]; exact HA.out.2.2.1.add _ (.inl ⟨rfl, rfl, rfl⟩)
          have hn2 : ls2.length ≤ i + 1 := by
            rw [← hls2, addL]
            have := HA.out.2.1
            split
            · rw [List.length_append, List.length_singleton]; omega
            · omega
          have hadd := fun V (hV : ReadsL V (.slice pv lv cv) ls) => radd_c bl nn HBN.out.1.2 (by have := HBN.out; omega) (.slice pv lv cv) ls ⟨1, xh, xp, 0, ⟨#[]⟩⟩ (by simp) V hV (by have := HA.out.1; have := HA.out.2.1; omega) (by rw [hlh]; omega) (by show (0 : Nat) ≤ 1000000; omega)
          rw [hE, hls2] at hadd
          simp only [lineC] at hadd
          have HADD := hid hadd
          have HS2 := hid (And.intro hR2 (And.intro hB2 hn2))
          have eE : (E != E) = false := by simp
          have FL := hid trivial
          have hsd := fun V (hV : DI w V B b1 B gr bl nn D ls (.slice pv lv cv)) => SealD_c hV.d xp xh hV.sz hV.Bb hV.Bq (fun W' h => HLL.out.below (hV.bw.trans (h.mono hV.wB))) (by rw [HA.out.2.2.2.len]; exact HBN.out.2.2) (by rw [hlh]; omega) (by rw [HA.out.2.2.2.lsl]; have := HA.out.1; have := HA.out.2.1; omega) (by rw [HA.out.2.2.2.sl]; have := cntL_le 1 ls nn; have := HBN.out; omega)
          simp only [HA.out.2.2.2.sealE xp xh 0 ⟨#[]⟩] at hsd
          rw [hE, hD2] at hsd
          have HSD := hid hsd
          clear hE hls2 hD2 hR2 hB2 hn2 hadd hsd
          go_wp2_with (first
            | (refine wpList_store_rowTo rfl 51 (.tmp 12) (.tmp 84) rfl rfl wr.heap.size #[.int .u8 ((kd : Nat) : Int), .int .i64 xp, .string xh, .int .i64 xq, .int .i64 xv, .string xs] rfl rfl 51 _ (heap_alloc_new wr _) (by kernel_rfl) rfl (dd_one _ _ _ _ _ _) ?_; obtain ⟨hq1, hb1⟩ := alloc_row (W := wr) (cs := #[.int .u8 ((kd : Nat) : Int), .int .i64 xp, .string xh, .int .i64 xq, .int .i64 xv, .string xs]) (T := 51) (old := #[.int .u8 0, .int .i64 0, .string ⟨#[]⟩, .int .i64 0, .int .i64 0, .string ⟨#[]⟩]) rfl; generalize (wr.alloc (.cells #[.int .u8 0, .int .i64 0, .string ⟨#[]⟩, .int .i64 0, .int .i64 0, .string ⟨#[]⟩] 51)).setRow wr.heap.size #[.int .u8 ((kd : Nat) : Int), .int .i64 xp, .string xh, .int .i64 xq, .int .i64 xv, .string xs] = w1 at hq1 hb1 ⊢; have hi1 := HI.out.below hb1; obtain ⟨gx, hgx⟩ : ∃ q, wr.heap.size = q := ⟨_, rfl⟩; rw [hgx] at hq1 ⊢; have HI1 := hid hi1; have HX1 := hid hq1; clear hi1 hq1 hb1 hgx e0 e1 e2 e3 e4 e5; have k0 := cell_of_row _ _ 0 _ _ _ HX1.out; have k1 := cell_of_row _ _ 1 _ _ _ HX1.out; have k2 := cell_of_row _ _ 2 _ _ _ HX1.out; have k3 := cell_of_row _ _ 3 _ _ _ HX1.out; have k4 := cell_of_row _ _ 4 _ _ _ HX1.out; have k5 := cell_of_row _ _ 5 _ _ _ HX1.out; have z0 := cell_of_row _ _ 0 _ _ _ HI1.out.gg; have z1 := cell_of_row _ _ 1 _ _ _ HI1.out.gg; have z2 := cell_of_row _ _ 2 _ _ _ HI1.out.gg)
            | (go_at_call 8; refine (HBX.out w1).mono ?_; rintro e w2 ⟨rfl, hb2⟩; have HI2 := hid (HI1.out.below hb2); have HX2 := hid (heap_below hb2 HX1.out (heap_lt HX1.out)); clear k0 k1 k2 k3 k4 k5 z0 z1 z2 hb2; have k0 := cell_of_row _ _ 0 _ _ _ HX2.out; have k1 := cell_of_row _ _ 1 _ _ _ HX2.out; have k2 := cell_of_row _ _ 2 _ _ _ HX2.out; have k3 := cell_of_row _ _ 3 _ _ _ HX2.out; have k4 := cell_of_row _ _ 4 _ _ _ HX2.out; have k5 := cell_of_row _ _ 5 _ _ _ HX2.out; have z0 := cell_of_row _ _ 0 _ _ _ HI2.out.gg; have z1 := cell_of_row _ _ 1 _ _ _ HI2.out.gg; have z2 := cell_of_row _ _ 2 _ _ _ HI2.out.gg)
            | (go_at_call 18; have hq := FL; clear hq FL; refine (sealNil_c _ _ _).mono ?_; rintro e wz ⟨rfl, rfl⟩)
            | (go_at_call 18; refine (HSD.out w2 HI2.out).mono ?_; rintro e w3 ⟨rfl, hd3, ho3⟩; have HI3 := hid (HI2.out.only hd3 ho3); have HX3 := hid (ho3.kept HI2.out.d HX2.out (by decide) (by decide) (by decide)); clear k0 k1 k2 k3 k4 k5 z0 z1 z2 hd3 ho3; have k0 := cell_of_row _ _ 0 _ _ _ HX3.out; have k1 := cell_of_row _ _ 1 _ _ _ HX3.out; have k2 := cell_of_row _ _ 2 _ _ _ HX3.out; have k3 := cell_of_row _ _ 3 _ _ _ HX3.out; have k4 := cell_of_row _ _ 4 _ _ _ HX3.out; have k5 := cell_of_row _ _ 5 _ _ _ HX3.out; have z0 := cell_of_row _ _ 0 _ _ _ HI3.out.gg; have z1 := cell_of_row _ _ 1 _ _ _ HI3.out.gg; have z2 := cell_of_row _ _ 2 _ _ _ HI3.out.gg)
            | (go_at_call 19; refine (HADD.out w3 HI3.out.l).mono ?_; rintro e w4 ⟨v', rfl, hl4, hb4⟩; obtain ⟨p', c', rfl⟩ := hl4.form; obtain ⟨dl, hdl⟩ : ∃ dl, ls2.length = dl := ⟨_, rfl⟩; rw [hdl] at hl4 ⊢; have HI4 := hid (HI3.out.below hb4); have HX4 := hid (heap_below hb4 HX3.out (heap_lt HX3.out)); have HL4 := hid hl4; clear k0 k1 k2 k3 k4 k5 z0 z1 z2 hl4 hb4 hdl; have k0 := cell_of_row _ _ 0 _ _ _ HX4.out; have k1 := cell_of_row _ _ 1 _ _ _ HX4.out; have k2 := cell_of_row _ _ 2 _ _ _ HX4.out; have k3 := cell_of_row _ _ 3 _ _ _ HX4.out; have k4 := cell_of_row _ _ 4 _ _ _ HX4.out; have k5 := cell_of_row _ _ 5 _ _ _ HX4.out; have z0 := cell_of_row _ _ 0 _ _ _ HI4.out.gg; have z1 := cell_of_row _ _ 1 _ _ _ HI4.out.gg; have z2 := cell_of_row _ _ 2 _ _ _ HI4.out.gg)
            | (refine wpList_store_rowTo rfl 49 (.tmp 10) (.tmp 148) rfl rfl gr #[.int .i64 ((bl : Nat) : Int), .int .i64 ((nn : Nat) : Int), .slice p' dl c'] rfl rfl 49 _ HI4.out.gg (by kernel_rfl) rfl (draw_one _ _ _ _ _) ?_; have hi5 := HI4.out.set HL4.out; have hx5 := (setRow_ne (cs := #[.int .i64 ((bl : Nat) : Int), .int .i64 ((nn : Nat) : Int), .slice p' dl c']) (typ_ne HX4.out HI4.out.gg (by decide))).trans HX4.out; generalize w4.setRow gr #[.int .i64 ((bl : Nat) : Int), .int .i64 ((nn : Nat) : Int), .slice p' dl c'] = w5 at hi5 hx5 ⊢; have HI5 := hid hi5; have HX5 := hid hx5; clear k0 k1 k2 k3 k4 k5 z0 z1 z2 hi5 hx5; have k0 := cell_of_row _ _ 0 _ _ _ HX5.out; have k1 := cell_of_row _ _ 1 _ _ _ HX5.out; have k2 := cell_of_row _ _ 2 _ _ _ HX5.out; have k3 := cell_of_row _ _ 3 _ _ _ HX5.out; have k4 := cell_of_row _ _ 4 _ _ _ HX5.out; have k5 := cell_of_row _ _ 5 _ _ _ HX5.out; have z0 := cell_of_row _ _ 0 _ _ _ HI5.out.gg; have z1 := cell_of_row _ _ 1 _ _ _ HI5.out.gg; have z2 := cell_of_row _ _ 2 _ _ _ HI5.out.gg)
            | (go_at_call 17; refine (HT.out w5 HI5.out.bw D2 ls2 (.slice p' dl c') HI5.out.d HS2.out.1 HS2.out.2.1 (by have := HS2.out.2.2; omega) HI5.out.l).mono ?_; rintro e w6 ⟨rfl, hb6⟩; have HI6 := hid (HI5.out.below hb6); have HX6 := hid (heap_below hb6 HX5.out (heap_lt HX5.out)); clear k0 k1 k2 k3 k4 k5 z0 z1 z2 hb6; have k0 := cell_of_row _ _ 0 _ _ _ HX6.out; have k1 := cell_of_row _ _ 1 _ _ _ HX6.out; have k2 := cell_of_row _ _ 2 _ _ _ HX6.out; have k3 := cell_of_row _ _ 3 _ _ _ HX6.out; have k4 := cell_of_row _ _ 4 _ _ _ HX6.out; have k5 := cell_of_row _ _ 5 _ _ _ HX6.out; have z0 := cell_of_row _ _ 0 _ _ _ HI6.out.gg; have z1 := cell_of_row _ _ 1 _ _ _ HI6.out.gg; have z2 := cell_of_row _ _ 2 _ _ _ HI6.out.gg))
          go_roundw
          case rel => exact ⟨i + 1, D2, ls2, _, rfl, ⟨by omega, HS2.out.2.2, HS2.out.2.1, HS2.out.1⟩, HI6.out⟩
          case measure => simp only [intOf, Int.toNat_natCast]; omega
        | true =>
          as_aux_lemma =>
          rw [hbb] at hbx
          have hbi := hbb
          simp only [isBoxL, Bool.and_eq_true, decide_eq_true_eq] at hbi
          obtain ⟨P, rfl⟩ : ∃ z : Nat, xq = z := ⟨xq.toNat, by omega⟩
          obtain ⟨U, rfl⟩ : ∃ z : Nat, xv = z := ⟨xv.toNat, by omega⟩
          have htx := fun V => rtext_c P U (by omega) (by omega) xs (by rw [hlz]; omega) V
          obtain ⟨T, hT⟩ : ∃ T : ByteArray, ⟨(boxL ((P : Nat) : Int) ((U : Nat) : Int) xs.data.toList).toArray⟩ = T := ⟨_, rfl⟩
          have hTz : T.size ≤ 1000000 := by
            rw [← hT]
            have h1 := itoa_len P (by omega)
            have h2 := itoa_len U (by omega)
            show (boxL ((P : Nat) : Int) ((U : Nat) : Int) xs.data.toList).toArray.size ≤ 1000000
            have h3 : xs.data.toList.length = lz := by rw [Array.length_toList]; exact hlz
            simp only [boxL, List.size_toArray, List.length_append, List.length_singleton, h3]
            omega
          have hha := fun V => rhash_c T hTz V
          have hHz := hashL_size T.data.toList
          obtain ⟨H, hH⟩ : ∃ H : ByteArray, ⟨(hashL T.data.toList).toArray⟩ = H := ⟨_, rfl⟩
          rw [hT] at htx
          rw [hH] at hha hHz
          have HBX := hid hbx
          have HTX := hid htx
          have HHA := hid hha
          clear hbx hbb hbi htx hha hT hTz hH
          obtain ⟨E, hE⟩ : ∃ E, addE bl nn ls ⟨1, H, xp, 0, ⟨#[]⟩⟩ = E := ⟨_, rfl⟩
          obtain ⟨ls2, hls2⟩ : ∃ q, addL bl nn ls ⟨1, H, xp, 0, ⟨#[]⟩⟩ = q := ⟨_, rfl⟩
          obtain ⟨D2, hD2⟩ : ∃ q, D.seal xp H = q := ⟨_, rfl⟩
          have hR2 : Rel bl nn D2 ls2 := by rw [← hD2, ← hls2]; exact HA.out.2.2.2.sealA xp H 0 ⟨#[]⟩
          have hB2 : Built bl nn ls2 := by rw [← hls2]; exact HA.out.2.2.1.add _ (.inl ⟨rfl, rfl, rfl⟩)
          have hn2 : ls2.length ≤ i + 1 := by
            rw [← hls2, addL]
            have := HA.out.2.1
            split
            · rw [List.length_append, List.length_singleton]; omega
            · omega
          have hadd := fun V (hV : ReadsL V (.slice pv lv cv) ls) => radd_c bl nn HBN.out.1.2 (by have := HBN.out; omega) (.slice pv lv cv) ls ⟨1, H, xp, 0, ⟨#[]⟩⟩ (by simp) V hV (by have := HA.out.1; have := HA.out.2.1; omega) hHz (by show (0 : Nat) ≤ 1000000; omega)
          rw [hE, hls2] at hadd
          simp only [lineC] at hadd
          have HADD := hid hadd
          have HS2 := hid (And.intro hR2 (And.intro hB2 hn2))
          have eE : (E != E) = false := by simp
          have FL := hid trivial
          have hsd := fun V (hV : DI w V B b1 B gr bl nn D ls (.slice pv lv cv)) => SealD_c hV.d xp H hV.sz hV.Bb hV.Bq (fun W' h => HLL.out.below (hV.bw.trans (h.mono hV.wB))) (by rw [HA.out.2.2.2.len]; exact HBN.out.2.2) hHz (by rw [HA.out.2.2.2.lsl]; have := HA.out.1; have := HA.out.2.1; omega) (by rw [HA.out.2.2.2.sl]; have := cntL_le 1 ls nn; have := HBN.out; omega)
          simp only [HA.out.2.2.2.sealE xp H 0 ⟨#[]⟩] at hsd
          rw [hE, hD2] at hsd
          have HSD := hid hsd
          clear hE hls2 hD2 hR2 hB2 hn2 hadd hsd
          go_wp2_with (first
            | (refine wpList_store_rowTo rfl 51 (.tmp 12) (.tmp 84) rfl rfl wr.heap.size #[.int .u8 ((kd : Nat) : Int), .int .i64 xp, .string xh, .int .i64 ((P : Nat) : Int), .int .i64 ((U : Nat) : Int), .string xs] rfl rfl 51 _ (heap_alloc_new wr _) (by kernel_rfl) rfl (dd_one _ _ _ _ _ _) ?_; obtain ⟨hq1, hb1⟩ := alloc_row (W := wr) (cs := #[.int .u8 ((kd : Nat) : Int), .int .i64 xp, .string xh, .int .i64 ((P : Nat) : Int), .int .i64 ((U : Nat) : Int), .string xs]) (T := 51) (old := #[.int .u8 0, .int .i64 0, .string ⟨#[]⟩, .int .i64 0, .int .i64 0, .string ⟨#[]⟩]) rfl; generalize (wr.alloc (.cells #[.int .u8 0, .int .i64 0, .string ⟨#[]⟩, .int .i64 0, .int .i64 0, .string ⟨#[]⟩] 51)).setRow wr.heap.size #[.int .u8 ((kd : Nat) : Int), .int .i64 xp, .string xh, .int .i64 ((P : Nat) : Int), .int .i64 ((U : Nat) : Int), .string xs] = w1 at hq1 hb1 ⊢; have hi1 := HI.out.below hb1; obtain ⟨gx, hgx⟩ : ∃ q, wr.heap.size = q := ⟨_, rfl⟩; rw [hgx] at hq1 ⊢; have HI1 := hid hi1; have HX1 := hid hq1; clear hi1 hq1 hb1 hgx e0 e1 e2 e3 e4 e5; have k0 := cell_of_row _ _ 0 _ _ _ HX1.out; have k1 := cell_of_row _ _ 1 _ _ _ HX1.out; have k2 := cell_of_row _ _ 2 _ _ _ HX1.out; have k3 := cell_of_row _ _ 3 _ _ _ HX1.out; have k4 := cell_of_row _ _ 4 _ _ _ HX1.out; have k5 := cell_of_row _ _ 5 _ _ _ HX1.out; have z0 := cell_of_row _ _ 0 _ _ _ HI1.out.gg; have z1 := cell_of_row _ _ 1 _ _ _ HI1.out.gg; have z2 := cell_of_row _ _ 2 _ _ _ HI1.out.gg)
            | (go_at_call 8; refine (HBX.out w1).mono ?_; rintro e w2 ⟨rfl, hb2⟩; have HI2 := hid (HI1.out.below hb2); have HX2 := hid (heap_below hb2 HX1.out (heap_lt HX1.out)); clear k0 k1 k2 k3 k4 k5 z0 z1 z2 hb2; have k0 := cell_of_row _ _ 0 _ _ _ HX2.out; have k1 := cell_of_row _ _ 1 _ _ _ HX2.out; have k2 := cell_of_row _ _ 2 _ _ _ HX2.out; have k3 := cell_of_row _ _ 3 _ _ _ HX2.out; have k4 := cell_of_row _ _ 4 _ _ _ HX2.out; have k5 := cell_of_row _ _ 5 _ _ _ HX2.out; have z0 := cell_of_row _ _ 0 _ _ _ HI2.out.gg; have z1 := cell_of_row _ _ 1 _ _ _ HI2.out.gg; have z2 := cell_of_row _ _ 2 _ _ _ HI2.out.gg)
            | (go_at_call 10; refine (HTX.out w2).mono ?_; rintro e w3 ⟨rfl, hb3⟩; have HI3 := hid (HI2.out.below hb3); have HX3 := hid (heap_below hb3 HX2.out (heap_lt HX2.out)); clear k0 k1 k2 k3 k4 k5 z0 z1 z2 hb3; have k0 := cell_of_row _ _ 0 _ _ _ HX3.out; have k1 := cell_of_row _ _ 1 _ _ _ HX3.out; have k2 := cell_of_row _ _ 2 _ _ _ HX3.out; have k3 := cell_of_row _ _ 3 _ _ _ HX3.out; have k4 := cell_of_row _ _ 4 _ _ _ HX3.out; have k5 := cell_of_row _ _ 5 _ _ _ HX3.out; have z0 := cell_of_row _ _ 0 _ _ _ HI3.out.gg; have z1 := cell_of_row _ _ 1 _ _ _ HI3.out.gg; have z2 := cell_of_row _ _ 2 _ _ _ HI3.out.gg)
            | (go_at_call 9; refine (HHA.out w3).mono ?_; rintro e w4 ⟨rfl, hb4⟩; have HI4 := hid (HI3.out.below hb4); have HX4 := hid (heap_below hb4 HX3.out (heap_lt HX3.out)); clear k0 k1 k2 k3 k4 k5 z0 z1 z2 hb4; have k0 := cell_of_row _ _ 0 _ _ _ HX4.out; have k1 := cell_of_row _ _ 1 _ _ _ HX4.out; have k2 := cell_of_row _ _ 2 _ _ _ HX4.out; have k3 := cell_of_row _ _ 3 _ _ _ HX4.out; have k4 := cell_of_row _ _ 4 _ _ _ HX4.out; have k5 := cell_of_row _ _ 5 _ _ _ HX4.out; have z0 := cell_of_row _ _ 0 _ _ _ HI4.out.gg; have z1 := cell_of_row _ _ 1 _ _ _ HI4.out.gg; have z2 := cell_of_row _ _ 2 _ _ _ HI4.out.gg)
            | (go_at_call 18; have hq := FL; clear hq FL; refine (sealNil_c _ _ _).mono ?_; rintro e wz ⟨rfl, rfl⟩)
            | (go_at_call 18; refine (HSD.out w4 HI4.out).mono ?_; rintro e w5 ⟨rfl, hd5, ho5⟩; have HI5 := hid (HI4.out.only hd5 ho5); have HX5 := hid (ho5.kept HI4.out.d HX4.out (by decide) (by decide) (by decide)); clear k0 k1 k2 k3 k4 k5 z0 z1 z2 hd5 ho5; have k0 := cell_of_row _ _ 0 _ _ _ HX5.out; have k1 := cell_of_row _ _ 1 _ _ _ HX5.out; have k2 := cell_of_row _ _ 2 _ _ _ HX5.out; have k3 := cell_of_row _ _ 3 _ _ _ HX5.out; have k4 := cell_of_row _ _ 4 _ _ _ HX5.out; have k5 := cell_of_row _ _ 5 _ _ _ HX5.out; have z0 := cell_of_row _ _ 0 _ _ _ HI5.out.gg; have z1 := cell_of_row _ _ 1 _ _ _ HI5.out.gg; have z2 := cell_of_row _ _ 2 _ _ _ HI5.out.gg)
            | (go_at_call 19; refine (HADD.out w5 HI5.out.l).mono ?_; rintro e w6 ⟨v', rfl, hl6, hb6⟩; obtain ⟨p', c', rfl⟩ := hl6.form; obtain ⟨dl, hdl⟩ : ∃ dl, ls2.length = dl := ⟨_, rfl⟩; rw [hdl] at hl6 ⊢; have HI6 := hid (HI5.out.below hb6); have HX6 := hid (heap_below hb6 HX5.out (heap_lt HX5.out)); have HL6 := hid hl6; clear k0 k1 k2 k3 k4 k5 z0 z1 z2 hl6 hb6 hdl; have k0 := cell_of_row _ _ 0 _ _ _ HX6.out; have k1 := cell_of_row _ _ 1 _ _ _ HX6.out; have k2 := cell_of_row _ _ 2 _ _ _ HX6.out; have k3 := cell_of_row _ _ 3 _ _ _ HX6.out; have k4 := cell_of_row _ _ 4 _ _ _ HX6.out; have k5 := cell_of_row _ _ 5 _ _ _ HX6.out; have z0 := cell_of_row _ _ 0 _ _ _ HI6.out.gg; have z1 := cell_of_row _ _ 1 _ _ _ HI6.out.gg; have z2 := cell_of_row _ _ 2 _ _ _ HI6.out.gg)
            | (refine wpList_store_rowTo rfl 49 (.tmp 10) (.tmp 148) rfl rfl gr #[.int .i64 ((bl : Nat) : Int), .int .i64 ((nn : Nat) : Int), .slice p' dl c'] rfl rfl 49 _ HI6.out.gg (by kernel_rfl) rfl (draw_one _ _ _ _ _) ?_; have hi7 := HI6.out.set HL6.out; have hx7 := (setRow_ne (cs := #[.int .i64 ((bl : Nat) : Int), .int .i64 ((nn : Nat) : Int), .slice p' dl c']) (typ_ne HX6.out HI6.out.gg (by decide))).trans HX6.out; generalize w6.setRow gr #[.int .i64 ((bl : Nat) : Int), .int .i64 ((nn : Nat) : Int), .slice p' dl c'] = w7 at hi7 hx7 ⊢; have HI7 := hid hi7; have HX7 := hid hx7; clear k0 k1 k2 k3 k4 k5 z0 z1 z2 hi7 hx7; have k0 := cell_of_row _ _ 0 _ _ _ HX7.out; have k1 := cell_of_row _ _ 1 _ _ _ HX7.out; have k2 := cell_of_row _ _ 2 _ _ _ HX7.out; have k3 := cell_of_row _ _ 3 _ _ _ HX7.out; have k4 := cell_of_row _ _ 4 _ _ _ HX7.out; have k5 := cell_of_row _ _ 5 _ _ _ HX7.out; have z0 := cell_of_row _ _ 0 _ _ _ HI7.out.gg; have z1 := cell_of_row _ _ 1 _ _ _ HI7.out.gg; have z2 := cell_of_row _ _ 2 _ _ _ HI7.out.gg)
            | (go_at_call 17; refine (HT.out w7 HI7.out.bw D2 ls2 (.slice p' dl c') HI7.out.d HS2.out.1 HS2.out.2.1 (by have := HS2.out.2.2; omega) HI7.out.l).mono ?_; rintro e w8 ⟨rfl, hb8⟩; have HI8 := hid (HI7.out.below hb8); have HX8 := hid (heap_below hb8 HX7.out (heap_lt HX7.out)); clear k0 k1 k2 k3 k4 k5 z0 z1 z2 hb8; have k0 := cell_of_row _ _ 0 _ _ _ HX8.out; have k1 := cell_of_row _ _ 1 _ _ _ HX8.out; have k2 := cell_of_row _ _ 2 _ _ _ HX8.out; have k3 := cell_of_row _ _ 3 _ _ _ HX8.out; have k4 := cell_of_row _ _ 4 _ _ _ HX8.out; have k5 := cell_of_row _ _ 5 _ _ _ HX8.out; have z0 := cell_of_row _ _ 0 _ _ _ HI8.out.gg; have z1 := cell_of_row _ _ 1 _ _ _ HI8.out.gg; have z2 := cell_of_row _ _ 2 _ _ _ HI8.out.gg))
          go_roundw
          case rel => exact ⟨i + 1, D2, ls2, _, rfl, ⟨by omega, HS2.out.2.2, HS2.out.2.1, HS2.out.1⟩, HI8.out⟩
          case measure => simp only [intOf, Int.toNat_natCast]; omega
      · have hk : ((kd : Nat) : Int) % 4 = 2 := hk4
        clear hk4 hr4 hr4'
        by_cases hE0 : addE bl nn ls ⟨2, ⟨#[]⟩, xq, xv, xs⟩ = 0
        · as_aux_lemma =>
          obtain ⟨E, hE⟩ : ∃ E, addE bl nn ls ⟨2, ⟨#[]⟩, xq, xv, xs⟩ = E := ⟨_, rfl⟩
          obtain rfl : E = 0 := hE.symm.trans hE0
          obtain ⟨ls2, hls2⟩ : ∃ q, addL bl nn ls ⟨2, ⟨#[]⟩, xq, xv, xs⟩ = q := ⟨_, rfl⟩
          obtain ⟨D2, hD2⟩ : ∃ q, D.open xq xv xs = q := ⟨_, rfl⟩
          have hR2 : Rel bl nn D2 ls2 := by rw [← hD2, ← hls2]; exact HA.out.2.2.2.openA xq xv ⟨#[]⟩ xs
          have hB2 : Built bl nn ls2 := by rw [← hls2]; exact HA.out.2.2.1.add _ (.inr (.inl ⟨rfl, rfl⟩))
          have hn2 : ls2.length ≤ i + 1 := by
            rw [← hls2, addL]
            have := HA.out.2.1
            split
            · rw [List.length_append, List.length_singleton]; omega
            · omega
          have hadd := fun V (hV : ReadsL V (.slice pv lv cv) ls) => radd_c bl nn HBN.out.1.2 (by have := HBN.out; omega) (.slice pv lv cv) ls ⟨2, ⟨#[]⟩, xq, xv, xs⟩ (by simp) V hV (by have := HA.out.1; have := HA.out.2.1; omega) (by show (0 : Nat) ≤ 1000000; omega) (by rw [hlz]; omega)
          rw [hE, hls2] at hadd
          simp only [lineC] at hadd
          have HADD := hid hadd
          have HS2 := hid (And.intro hR2 (And.intro hB2 hn2))
          have eE : True := trivial
          have FL := hid trivial
          have hod := fun V (hV : DI w V B b1 B gr bl nn D ls (.slice pv lv cv)) => OpenD_c hV.d xq xv xs hV.sz hV.Bb hV.Bq (fun W' h => HLL.out.below (hV.bw.trans (h.mono hV.wB))) (by rw [HA.out.2.2.2.len]; exact HBN.out.2.2) (by rw [HA.out.2.2.2.below]; exact HBN.out.1.2) (by rw [hlz]; omega) (by rw [HA.out.2.2.2.lsl]; have := HA.out.1; have := HA.out.2.1; omega) (by rw [HA.out.2.2.2.op]; have := cntL_le 2 ls nn; have := HBN.out; omega)
          simp only [HA.out.2.2.2.openE xq xv ⟨#[]⟩ xs] at hod
          rw [hE, hD2] at hod
          have hrr : D.openR xq xv xs = rightL xq ls2 := by
            rw [← hls2, addL, if_pos hE]
            exact (HA.out.2.2.2.open hE).2
          rw [hrr] at hod
          simp only [if_true] at hod
          have hok := (hR2.okT HBN.out.1.2 HBN.out.2.2).okB
          have hri := fun V (v : Value) (hV : ReadsL V v ls2) => rright_c ((bl : Nat) : Int) ((nn : Nat) : Int) xq v ls2 V hV (by have := HA.out.1; have := HA.out.2.1; omega) hok
          obtain ⟨rb, hrb⟩ : ∃ q, rightL xq ls2 = q := ⟨_, rfl⟩
          rw [hrb] at hod
          simp only [hrb] at hri
          have erb : (rb != rb) = false := by simp
          have HRI := hid hri
          have HOD := hid hod
          clear hE hls2 hD2 hR2 hB2 hn2 hadd hod hrr hok hri hrb
          go_wp2_with (first
            | (refine wpList_store_rowTo rfl 51 (.tmp 12) (.tmp 84) rfl rfl wr.heap.size #[.int .u8 ((kd : Nat) : Int), .int .i64 xp, .string xh, .int .i64 xq, .int .i64 xv, .string xs] rfl rfl 51 _ (heap_alloc_new wr _) (by kernel_rfl) rfl (dd_one _ _ _ _ _ _) ?_; obtain ⟨hq1, hb1⟩ := alloc_row (W := wr) (cs := #[.int .u8 ((kd : Nat) : Int), .int .i64 xp, .string xh, .int .i64 xq, .int .i64 xv, .string xs]) (T := 51) (old := #[.int .u8 0, .int .i64 0, .string ⟨#[]⟩, .int .i64 0, .int .i64 0, .string ⟨#[]⟩]) rfl; generalize (wr.alloc (.cells #[.int .u8 0, .int .i64 0, .string ⟨#[]⟩, .int .i64 0, .int .i64 0, .string ⟨#[]⟩] 51)).setRow wr.heap.size #[.int .u8 ((kd : Nat) : Int), .int .i64 xp, .string xh, .int .i64 xq, .int .i64 xv, .string xs] = w1 at hq1 hb1 ⊢; have hi1 := HI.out.below hb1; obtain ⟨gx, hgx⟩ : ∃ q, wr.heap.size = q := ⟨_, rfl⟩; rw [hgx] at hq1 ⊢; have HI1 := hid hi1; have HX1 := hid hq1; clear hi1 hq1 hb1 hgx e0 e1 e2 e3 e4 e5; have k0 := cell_of_row _ _ 0 _ _ _ HX1.out; have k1 := cell_of_row _ _ 1 _ _ _ HX1.out; have k2 := cell_of_row _ _ 2 _ _ _ HX1.out; have k3 := cell_of_row _ _ 3 _ _ _ HX1.out; have k4 := cell_of_row _ _ 4 _ _ _ HX1.out; have k5 := cell_of_row _ _ 5 _ _ _ HX1.out; have z0 := cell_of_row _ _ 0 _ _ _ HI1.out.gg; have z1 := cell_of_row _ _ 1 _ _ _ HI1.out.gg; have z2 := cell_of_row _ _ 2 _ _ _ HI1.out.gg)
            | (go_at_call 20; have hq := FL; clear hq FL; refine (openNil_c _ _ _ _).mono ?_; rintro e w2 ⟨rfl, hb2⟩; have HI2 := hid (HI1.out.below hb2); have HX2 := hid (heap_below hb2 HX1.out (heap_lt HX1.out)); clear k0 k1 k2 k3 k4 k5 z0 z1 z2 hb2; have k0 := cell_of_row _ _ 0 _ _ _ HX2.out; have k1 := cell_of_row _ _ 1 _ _ _ HX2.out; have k2 := cell_of_row _ _ 2 _ _ _ HX2.out; have k3 := cell_of_row _ _ 3 _ _ _ HX2.out; have k4 := cell_of_row _ _ 4 _ _ _ HX2.out; have k5 := cell_of_row _ _ 5 _ _ _ HX2.out; have z0 := cell_of_row _ _ 0 _ _ _ HI2.out.gg; have z1 := cell_of_row _ _ 1 _ _ _ HI2.out.gg; have z2 := cell_of_row _ _ 2 _ _ _ HI2.out.gg)
            | (go_at_call 20; refine (HOD.out w2 HI2.out).mono ?_; rintro e w3 ⟨rfl, hd3, ho3⟩; have HI3 := hid (HI2.out.only hd3 ho3); have HX3 := hid (ho3.kept HI2.out.d HX2.out (by decide) (by decide) (by decide)); clear k0 k1 k2 k3 k4 k5 z0 z1 z2 hd3 ho3; have k0 := cell_of_row _ _ 0 _ _ _ HX3.out; have k1 := cell_of_row _ _ 1 _ _ _ HX3.out; have k2 := cell_of_row _ _ 2 _ _ _ HX3.out; have k3 := cell_of_row _ _ 3 _ _ _ HX3.out; have k4 := cell_of_row _ _ 4 _ _ _ HX3.out; have k5 := cell_of_row _ _ 5 _ _ _ HX3.out; have z0 := cell_of_row _ _ 0 _ _ _ HI3.out.gg; have z1 := cell_of_row _ _ 1 _ _ _ HI3.out.gg; have z2 := cell_of_row _ _ 2 _ _ _ HI3.out.gg)
            | (go_at_call 19; refine (HADD.out w3 HI3.out.l).mono ?_; rintro e w4 ⟨v', rfl, hl4, hb4⟩; obtain ⟨p', c', rfl⟩ := hl4.form; obtain ⟨dl, hdl⟩ : ∃ dl, ls2.length = dl := ⟨_, rfl⟩; rw [hdl] at hl4 ⊢; have HI4 := hid (HI3.out.below hb4); have HX4 := hid (heap_below hb4 HX3.out (heap_lt HX3.out)); have HL4 := hid hl4; clear k0 k1 k2 k3 k4 k5 z0 z1 z2 hl4 hb4 hdl; have k0 := cell_of_row _ _ 0 _ _ _ HX4.out; have k1 := cell_of_row _ _ 1 _ _ _ HX4.out; have k2 := cell_of_row _ _ 2 _ _ _ HX4.out; have k3 := cell_of_row _ _ 3 _ _ _ HX4.out; have k4 := cell_of_row _ _ 4 _ _ _ HX4.out; have k5 := cell_of_row _ _ 5 _ _ _ HX4.out; have z0 := cell_of_row _ _ 0 _ _ _ HI4.out.gg; have z1 := cell_of_row _ _ 1 _ _ _ HI4.out.gg; have z2 := cell_of_row _ _ 2 _ _ _ HI4.out.gg)
            | (refine wpList_store_rowTo rfl 49 (.tmp 10) (.tmp 177) rfl rfl gr #[.int .i64 ((bl : Nat) : Int), .int .i64 ((nn : Nat) : Int), .slice p' dl c'] rfl rfl 49 _ HI4.out.gg (by kernel_rfl) rfl (draw_one _ _ _ _ _) ?_; have hi5 := HI4.out.set HL4.out; have hx5 := (setRow_ne (cs := #[.int .i64 ((bl : Nat) : Int), .int .i64 ((nn : Nat) : Int), .slice p' dl c']) (typ_ne HX4.out HI4.out.gg (by decide))).trans HX4.out; generalize w4.setRow gr #[.int .i64 ((bl : Nat) : Int), .int .i64 ((nn : Nat) : Int), .slice p' dl c'] = w5 at hi5 hx5 ⊢; have HI5 := hid hi5; have HX5 := hid hx5; clear k0 k1 k2 k3 k4 k5 z0 z1 z2 hi5 hx5; have k0 := cell_of_row _ _ 0 _ _ _ HX5.out; have k1 := cell_of_row _ _ 1 _ _ _ HX5.out; have k2 := cell_of_row _ _ 2 _ _ _ HX5.out; have k3 := cell_of_row _ _ 3 _ _ _ HX5.out; have k4 := cell_of_row _ _ 4 _ _ _ HX5.out; have k5 := cell_of_row _ _ 5 _ _ _ HX5.out; have z0 := cell_of_row _ _ 0 _ _ _ HI5.out.gg; have z1 := cell_of_row _ _ 1 _ _ _ HI5.out.gg; have z2 := cell_of_row _ _ 2 _ _ _ HI5.out.gg)
            | (go_at_call 21; refine (HRI.out w5 _ HI5.out.l).mono ?_; rintro e w6 ⟨rfl, hb6⟩; have HI6 := hid (HI5.out.below hb6); have HX6 := hid (heap_below hb6 HX5.out (heap_lt HX5.out)); clear k0 k1 k2 k3 k4 k5 z0 z1 z2 hb6; have k0 := cell_of_row _ _ 0 _ _ _ HX6.out; have k1 := cell_of_row _ _ 1 _ _ _ HX6.out; have k2 := cell_of_row _ _ 2 _ _ _ HX6.out; have k3 := cell_of_row _ _ 3 _ _ _ HX6.out; have k4 := cell_of_row _ _ 4 _ _ _ HX6.out; have k5 := cell_of_row _ _ 5 _ _ _ HX6.out; have z0 := cell_of_row _ _ 0 _ _ _ HI6.out.gg; have z1 := cell_of_row _ _ 1 _ _ _ HI6.out.gg; have z2 := cell_of_row _ _ 2 _ _ _ HI6.out.gg)
            | (go_at_call 17; refine (HT.out w6 HI6.out.bw D2 ls2 (.slice p' dl c') HI6.out.d HS2.out.1 HS2.out.2.1 (by have := HS2.out.2.2; omega) HI6.out.l).mono ?_; rintro e w7 ⟨rfl, hb7⟩; have HI7 := hid (HI6.out.below hb7); have HX7 := hid (heap_below hb7 HX6.out (heap_lt HX6.out)); clear k0 k1 k2 k3 k4 k5 z0 z1 z2 hb7; have k0 := cell_of_row _ _ 0 _ _ _ HX7.out; have k1 := cell_of_row _ _ 1 _ _ _ HX7.out; have k2 := cell_of_row _ _ 2 _ _ _ HX7.out; have k3 := cell_of_row _ _ 3 _ _ _ HX7.out; have k4 := cell_of_row _ _ 4 _ _ _ HX7.out; have k5 := cell_of_row _ _ 5 _ _ _ HX7.out; have z0 := cell_of_row _ _ 0 _ _ _ HI7.out.gg; have z1 := cell_of_row _ _ 1 _ _ _ HI7.out.gg; have z2 := cell_of_row _ _ 2 _ _ _ HI7.out.gg))
          go_roundw
          case rel => exact ⟨i + 1, D2, ls2, _, rfl, ⟨by omega, HS2.out.2.2, HS2.out.2.1, HS2.out.1⟩, HI7.out⟩
          case measure => simp only [intOf, Int.toNat_natCast]; omega
        · as_aux_lemma =>
          obtain ⟨E, hE⟩ : ∃ E, addE bl nn ls ⟨2, ⟨#[]⟩, xq, xv, xs⟩ = E := ⟨_, rfl⟩
          rw [hE] at hE0
          obtain ⟨ls2, hls2⟩ : ∃ q, addL bl nn ls ⟨2, ⟨#[]⟩, xq, xv, xs⟩ = q := ⟨_, rfl⟩
          obtain ⟨D2, hD2⟩ : ∃ q, D.open xq xv xs = q := ⟨_, rfl⟩
          have hR2 : Rel bl nn D2 ls2 := by rw [← hD2, ← hls2]; exact HA.out.2.2.2.openA xq xv ⟨#[]⟩ xs
          have hB2 : Built bl nn ls2 := by rw [← hls2]; exact HA.out.2.2.1.add _ (.inr (.inl ⟨rfl, rfl⟩))
          have hn2 : ls2.length ≤ i + 1 := by
            rw [← hls2, addL]
            have := HA.out.2.1
            split
            · rw [List.length_append, List.length_singleton]; omega
            · omega
          have hadd := fun V (hV : ReadsL V (.slice pv lv cv) ls) => radd_c bl nn HBN.out.1.2 (by have := HBN.out; omega) (.slice pv lv cv) ls ⟨2, ⟨#[]⟩, xq, xv, xs⟩ (by simp) V hV (by have := HA.out.1; have := HA.out.2.1; omega) (by show (0 : Nat) ≤ 1000000; omega) (by rw [hlz]; omega)
          rw [hE, hls2] at hadd
          simp only [lineC] at hadd
          have HADD := hid hadd
          have HS2 := hid (And.intro hR2 (And.intro hB2 hn2))
          have eE : (E != E) = false := by simp
          have FL := hid trivial
          have hod := fun V (hV : DI w V B b1 B gr bl nn D ls (.slice pv lv cv)) => OpenD_c hV.d xq xv xs hV.sz hV.Bb hV.Bq (fun W' h => HLL.out.below (hV.bw.trans (h.mono hV.wB))) (by rw [HA.out.2.2.2.len]; exact HBN.out.2.2) (by rw [HA.out.2.2.2.below]; exact HBN.out.1.2) (by rw [hlz]; omega) (by rw [HA.out.2.2.2.lsl]; have := HA.out.1; have := HA.out.2.1; omega) (by rw [HA.out.2.2.2.op]; have := cntL_le 2 ls nn; have := HBN.out; omega)
          simp only [HA.out.2.2.2.openE xq xv ⟨#[]⟩ xs] at hod
          rw [hE, hD2] at hod
          simp only [if_neg hE0] at hod
          have eE0 : (E == 0) = false := by simpa using hE0
          have HOD := hid hod
          clear hE hls2 hD2 hR2 hB2 hn2 hadd hod
          go_wp2_with (first
            | (refine wpList_store_rowTo rfl 51 (.tmp 12) (.tmp 84) rfl rfl wr.heap.size #[.int .u8 ((kd : Nat) : Int), .int .i64 xp, .string xh, .int .i64 xq, .int .i64 xv, .string xs] rfl rfl 51 _ (heap_alloc_new wr _) (by kernel_rfl) rfl (dd_one _ _ _ _ _ _) ?_; obtain ⟨hq1, hb1⟩ := alloc_row (W := wr) (cs := #[.int .u8 ((kd : Nat) : Int), .int .i64 xp, .string xh, .int .i64 xq, .int .i64 xv, .string xs]) (T := 51) (old := #[.int .u8 0, .int .i64 0, .string ⟨#[]⟩, .int .i64 0, .int .i64 0, .string ⟨#[]⟩]) rfl; generalize (wr.alloc (.cells #[.int .u8 0, .int .i64 0, .string ⟨#[]⟩, .int .i64 0, .int .i64 0, .string ⟨#[]⟩] 51)).setRow wr.heap.size #[.int .u8 ((kd : Nat) : Int), .int .i64 xp, .string xh, .int .i64 xq, .int .i64 xv, .string xs] = w1 at hq1 hb1 ⊢; have hi1 := HI.out.below hb1; obtain ⟨gx, hgx⟩ : ∃ q, wr.heap.size = q := ⟨_, rfl⟩; rw [hgx] at hq1 ⊢; have HI1 := hid hi1; have HX1 := hid hq1; clear hi1 hq1 hb1 hgx e0 e1 e2 e3 e4 e5; have k0 := cell_of_row _ _ 0 _ _ _ HX1.out; have k1 := cell_of_row _ _ 1 _ _ _ HX1.out; have k2 := cell_of_row _ _ 2 _ _ _ HX1.out; have k3 := cell_of_row _ _ 3 _ _ _ HX1.out; have k4 := cell_of_row _ _ 4 _ _ _ HX1.out; have k5 := cell_of_row _ _ 5 _ _ _ HX1.out; have z0 := cell_of_row _ _ 0 _ _ _ HI1.out.gg; have z1 := cell_of_row _ _ 1 _ _ _ HI1.out.gg; have z2 := cell_of_row _ _ 2 _ _ _ HI1.out.gg)
            | (go_at_call 20; have hq := FL; clear hq FL; refine (openNil_c _ _ _ _).mono ?_; rintro e w2 ⟨rfl, hb2⟩; have HI2 := hid (HI1.out.below hb2); have HX2 := hid (heap_below hb2 HX1.out (heap_lt HX1.out)); clear k0 k1 k2 k3 k4 k5 z0 z1 z2 hb2; have k0 := cell_of_row _ _ 0 _ _ _ HX2.out; have k1 := cell_of_row _ _ 1 _ _ _ HX2.out; have k2 := cell_of_row _ _ 2 _ _ _ HX2.out; have k3 := cell_of_row _ _ 3 _ _ _ HX2.out; have k4 := cell_of_row _ _ 4 _ _ _ HX2.out; have k5 := cell_of_row _ _ 5 _ _ _ HX2.out; have z0 := cell_of_row _ _ 0 _ _ _ HI2.out.gg; have z1 := cell_of_row _ _ 1 _ _ _ HI2.out.gg; have z2 := cell_of_row _ _ 2 _ _ _ HI2.out.gg)
            | (go_at_call 20; refine (HOD.out w2 HI2.out).mono ?_; rintro e w3 ⟨rfl, hd3, ho3⟩; have HI3 := hid (HI2.out.only hd3 ho3); have HX3 := hid (ho3.kept HI2.out.d HX2.out (by decide) (by decide) (by decide)); clear k0 k1 k2 k3 k4 k5 z0 z1 z2 hd3 ho3; have k0 := cell_of_row _ _ 0 _ _ _ HX3.out; have k1 := cell_of_row _ _ 1 _ _ _ HX3.out; have k2 := cell_of_row _ _ 2 _ _ _ HX3.out; have k3 := cell_of_row _ _ 3 _ _ _ HX3.out; have k4 := cell_of_row _ _ 4 _ _ _ HX3.out; have k5 := cell_of_row _ _ 5 _ _ _ HX3.out; have z0 := cell_of_row _ _ 0 _ _ _ HI3.out.gg; have z1 := cell_of_row _ _ 1 _ _ _ HI3.out.gg; have z2 := cell_of_row _ _ 2 _ _ _ HI3.out.gg)
            | (go_at_call 19; refine (HADD.out w3 HI3.out.l).mono ?_; rintro e w4 ⟨v', rfl, hl4, hb4⟩; obtain ⟨p', c', rfl⟩ := hl4.form; obtain ⟨dl, hdl⟩ : ∃ dl, ls2.length = dl := ⟨_, rfl⟩; rw [hdl] at hl4 ⊢; have HI4 := hid (HI3.out.below hb4); have HX4 := hid (heap_below hb4 HX3.out (heap_lt HX3.out)); have HL4 := hid hl4; clear k0 k1 k2 k3 k4 k5 z0 z1 z2 hl4 hb4 hdl; have k0 := cell_of_row _ _ 0 _ _ _ HX4.out; have k1 := cell_of_row _ _ 1 _ _ _ HX4.out; have k2 := cell_of_row _ _ 2 _ _ _ HX4.out; have k3 := cell_of_row _ _ 3 _ _ _ HX4.out; have k4 := cell_of_row _ _ 4 _ _ _ HX4.out; have k5 := cell_of_row _ _ 5 _ _ _ HX4.out; have z0 := cell_of_row _ _ 0 _ _ _ HI4.out.gg; have z1 := cell_of_row _ _ 1 _ _ _ HI4.out.gg; have z2 := cell_of_row _ _ 2 _ _ _ HI4.out.gg)
            | (refine wpList_store_rowTo rfl 49 (.tmp 10) (.tmp 177) rfl rfl gr #[.int .i64 ((bl : Nat) : Int), .int .i64 ((nn : Nat) : Int), .slice p' dl c'] rfl rfl 49 _ HI4.out.gg (by kernel_rfl) rfl (draw_one _ _ _ _ _) ?_; have hi5 := HI4.out.set HL4.out; have hx5 := (setRow_ne (cs := #[.int .i64 ((bl : Nat) : Int), .int .i64 ((nn : Nat) : Int), .slice p' dl c']) (typ_ne HX4.out HI4.out.gg (by decide))).trans HX4.out; generalize w4.setRow gr #[.int .i64 ((bl : Nat) : Int), .int .i64 ((nn : Nat) : Int), .slice p' dl c'] = w5 at hi5 hx5 ⊢; have HI5 := hid hi5; have HX5 := hid hx5; clear k0 k1 k2 k3 k4 k5 z0 z1 z2 hi5 hx5; have k0 := cell_of_row _ _ 0 _ _ _ HX5.out; have k1 := cell_of_row _ _ 1 _ _ _ HX5.out; have k2 := cell_of_row _ _ 2 _ _ _ HX5.out; have k3 := cell_of_row _ _ 3 _ _ _ HX5.out; have k4 := cell_of_row _ _ 4 _ _ _ HX5.out; have k5 := cell_of_row _ _ 5 _ _ _ HX5.out; have z0 := cell_of_row _ _ 0 _ _ _ HI5.out.gg; have z1 := cell_of_row _ _ 1 _ _ _ HI5.out.gg; have z2 := cell_of_row _ _ 2 _ _ _ HI5.out.gg)
            | (go_at_call 17; refine (HT.out w5 HI5.out.bw D2 ls2 (.slice p' dl c') HI5.out.d HS2.out.1 HS2.out.2.1 (by have := HS2.out.2.2; omega) HI5.out.l).mono ?_; rintro e w6 ⟨rfl, hb6⟩; have HI6 := hid (HI5.out.below hb6); have HX6 := hid (heap_below hb6 HX5.out (heap_lt HX5.out)); clear k0 k1 k2 k3 k4 k5 z0 z1 z2 hb6; have k0 := cell_of_row _ _ 0 _ _ _ HX6.out; have k1 := cell_of_row _ _ 1 _ _ _ HX6.out; have k2 := cell_of_row _ _ 2 _ _ _ HX6.out; have k3 := cell_of_row _ _ 3 _ _ _ HX6.out; have k4 := cell_of_row _ _ 4 _ _ _ HX6.out; have k5 := cell_of_row _ _ 5 _ _ _ HX6.out; have z0 := cell_of_row _ _ 0 _ _ _ HI6.out.gg; have z1 := cell_of_row _ _ 1 _ _ _ HI6.out.gg; have z2 := cell_of_row _ _ 2 _ _ _ HI6.out.gg))
          go_roundw
          case rel => exact ⟨i + 1, D2, ls2, _, rfl, ⟨by omega, HS2.out.2.2, HS2.out.2.1, HS2.out.1⟩, HI6.out⟩
          case measure => simp only [intOf, Int.toNat_natCast]; omega
      · as_aux_lemma =>
        have hk : ((kd : Nat) : Int) % 4 = 3 := hk4
        clear hk4 hr4 hr4'
        obtain ⟨E, hE⟩ : ∃ E, addE bl nn ls ⟨3, ⟨#[]⟩, 0, 0, ⟨#[]⟩⟩ = E := ⟨_, rfl⟩
        obtain ⟨ls2, hls2⟩ : ∃ q, addL bl nn ls ⟨3, ⟨#[]⟩, 0, 0, ⟨#[]⟩⟩ = q := ⟨_, rfl⟩
        obtain ⟨D2, hD2⟩ : ∃ q, D.close = q := ⟨_, rfl⟩
        have hR2 : Rel bl nn D2 ls2 := by rw [← hD2, ← hls2]; exact HA.out.2.2.2.closeA 0 ⟨#[]⟩ ⟨#[]⟩
        have hB2 : Built bl nn ls2 := by rw [← hls2]; exact HA.out.2.2.1.add _ (.inr (.inr ⟨rfl, rfl, rfl, rfl, rfl⟩))
        have hn2 : ls2.length ≤ i + 1 := by
          rw [← hls2, addL]
          have := HA.out.2.1
          split
          · rw [List.length_append, List.length_singleton]; omega
          · omega
        have hadd := fun V (hV : ReadsL V (.slice pv lv cv) ls) => radd_c bl nn HBN.out.1.2 (by have := HBN.out; omega) (.slice pv lv cv) ls ⟨3, ⟨#[]⟩, 0, 0, ⟨#[]⟩⟩ (by simp) V hV (by have := HA.out.1; have := HA.out.2.1; omega) (by show (0 : Nat) ≤ 1000000; omega) (by show (0 : Nat) ≤ 1000000; omega)
        rw [hE, hls2] at hadd
        simp only [lineC] at hadd
        have HADD := hid hadd
        have HS2 := hid (And.intro hR2 (And.intro hB2 hn2))
        have eE : (E != E) = false := by simp
        have FL := hid trivial
        have hcd := fun V (hV : DI w V B b1 B gr bl nn D ls (.slice pv lv cv)) => CloseD_c hV.d hV.sz hV.Bb (by rw [HA.out.2.2.2.lsl]; have := HA.out.1; have := HA.out.2.1; omega)
        simp only [HA.out.2.2.2.closeE 0 0 ⟨#[]⟩ ⟨#[]⟩] at hcd
        rw [hE, hD2] at hcd
        have HCD := hid hcd
        clear hE hls2 hD2 hR2 hB2 hn2 hadd hcd
        go_wp2_with (first
          | (refine wpList_store_rowTo rfl 51 (.tmp 12) (.tmp 84) rfl rfl wr.heap.size #[.int .u8 ((kd : Nat) : Int), .int .i64 xp, .string xh, .int .i64 xq, .int .i64 xv, .string xs] rfl rfl 51 _ (heap_alloc_new wr _) (by kernel_rfl) rfl (dd_one _ _ _ _ _ _) ?_; obtain ⟨hq1, hb1⟩ := alloc_row (W := wr) (cs := #[.int .u8 ((kd : Nat) : Int), .int .i64 xp, .string xh, .int .i64 xq, .int .i64 xv, .string xs]) (T := 51) (old := #[.int .u8 0, .int .i64 0, .string ⟨#[]⟩, .int .i64 0, .int .i64 0, .string ⟨#[]⟩]) rfl; generalize (wr.alloc (.cells #[.int .u8 0, .int .i64 0, .string ⟨#[]⟩, .int .i64 0, .int .i64 0, .string ⟨#[]⟩] 51)).setRow wr.heap.size #[.int .u8 ((kd : Nat) : Int), .int .i64 xp, .string xh, .int .i64 xq, .int .i64 xv, .string xs] = w1 at hq1 hb1 ⊢; have hi1 := HI.out.below hb1; obtain ⟨gx, hgx⟩ : ∃ q, wr.heap.size = q := ⟨_, rfl⟩; rw [hgx] at hq1 ⊢; have HI1 := hid hi1; have HX1 := hid hq1; clear hi1 hq1 hb1 hgx e0 e1 e2 e3 e4 e5; have k0 := cell_of_row _ _ 0 _ _ _ HX1.out; have k1 := cell_of_row _ _ 1 _ _ _ HX1.out; have k2 := cell_of_row _ _ 2 _ _ _ HX1.out; have k3 := cell_of_row _ _ 3 _ _ _ HX1.out; have k4 := cell_of_row _ _ 4 _ _ _ HX1.out; have k5 := cell_of_row _ _ 5 _ _ _ HX1.out; have z0 := cell_of_row _ _ 0 _ _ _ HI1.out.gg; have z1 := cell_of_row _ _ 1 _ _ _ HI1.out.gg; have z2 := cell_of_row _ _ 2 _ _ _ HI1.out.gg)
          | (go_at_call 22; have hq := FL; clear hq FL; refine (closeNil_c _).mono ?_; rintro e wz ⟨rfl, rfl⟩)
          | (go_at_call 22; refine (HCD.out w1 HI1.out).mono ?_; rintro e w2 ⟨rfl, hd2, ho2⟩; have HI2 := hid (HI1.out.only hd2 ho2); have HX2 := hid (ho2.kept HI1.out.d HX1.out (by decide) (by decide) (by decide)); clear k0 k1 k2 k3 k4 k5 z0 z1 z2 hd2 ho2; have k0 := cell_of_row _ _ 0 _ _ _ HX2.out; have k1 := cell_of_row _ _ 1 _ _ _ HX2.out; have k2 := cell_of_row _ _ 2 _ _ _ HX2.out; have k3 := cell_of_row _ _ 3 _ _ _ HX2.out; have k4 := cell_of_row _ _ 4 _ _ _ HX2.out; have k5 := cell_of_row _ _ 5 _ _ _ HX2.out; have z0 := cell_of_row _ _ 0 _ _ _ HI2.out.gg; have z1 := cell_of_row _ _ 1 _ _ _ HI2.out.gg; have z2 := cell_of_row _ _ 2 _ _ _ HI2.out.gg)
          | (go_at_call 19; refine (HADD.out w2 HI2.out.l).mono ?_; rintro e w3 ⟨v', rfl, hl3, hb3⟩; obtain ⟨p', c', rfl⟩ := hl3.form; obtain ⟨dl, hdl⟩ : ∃ dl, ls2.length = dl := ⟨_, rfl⟩; rw [hdl] at hl3 ⊢; have HI3 := hid (HI2.out.below hb3); have HX3 := hid (heap_below hb3 HX2.out (heap_lt HX2.out)); have HL3 := hid hl3; clear k0 k1 k2 k3 k4 k5 z0 z1 z2 hl3 hb3 hdl; have k0 := cell_of_row _ _ 0 _ _ _ HX3.out; have k1 := cell_of_row _ _ 1 _ _ _ HX3.out; have k2 := cell_of_row _ _ 2 _ _ _ HX3.out; have k3 := cell_of_row _ _ 3 _ _ _ HX3.out; have k4 := cell_of_row _ _ 4 _ _ _ HX3.out; have k5 := cell_of_row _ _ 5 _ _ _ HX3.out; have z0 := cell_of_row _ _ 0 _ _ _ HI3.out.gg; have z1 := cell_of_row _ _ 1 _ _ _ HI3.out.gg; have z2 := cell_of_row _ _ 2 _ _ _ HI3.out.gg)
          | (refine wpList_store_rowTo rfl 49 (.tmp 10) (.tmp 124) rfl rfl gr #[.int .i64 ((bl : Nat) : Int), .int .i64 ((nn : Nat) : Int), .slice p' dl c'] rfl rfl 49 _ HI3.out.gg (by kernel_rfl) rfl (draw_one _ _ _ _ _) ?_; have hi4 := HI3.out.set HL3.out; have hx4 := (setRow_ne (cs := #[.int .i64 ((bl : Nat) : Int), .int .i64 ((nn : Nat) : Int), .slice p' dl c']) (typ_ne HX3.out HI3.out.gg (by decide))).trans HX3.out; generalize w3.setRow gr #[.int .i64 ((bl : Nat) : Int), .int .i64 ((nn : Nat) : Int), .slice p' dl c'] = w4 at hi4 hx4 ⊢; have HI4 := hid hi4; have HX4 := hid hx4; clear k0 k1 k2 k3 k4 k5 z0 z1 z2 hi4 hx4; have k0 := cell_of_row _ _ 0 _ _ _ HX4.out; have k1 := cell_of_row _ _ 1 _ _ _ HX4.out; have k2 := cell_of_row _ _ 2 _ _ _ HX4.out; have k3 := cell_of_row _ _ 3 _ _ _ HX4.out; have k4 := cell_of_row _ _ 4 _ _ _ HX4.out; have k5 := cell_of_row _ _ 5 _ _ _ HX4.out; have z0 := cell_of_row _ _ 0 _ _ _ HI4.out.gg; have z1 := cell_of_row _ _ 1 _ _ _ HI4.out.gg; have z2 := cell_of_row _ _ 2 _ _ _ HI4.out.gg)
          | (go_at_call 17; refine (HT.out w4 HI4.out.bw D2 ls2 (.slice p' dl c') HI4.out.d HS2.out.1 HS2.out.2.1 (by have := HS2.out.2.2; omega) HI4.out.l).mono ?_; rintro e w5 ⟨rfl, hb5⟩; have HI5 := hid (HI4.out.below hb5); have HX5 := hid (heap_below hb5 HX4.out (heap_lt HX4.out)); clear k0 k1 k2 k3 k4 k5 z0 z1 z2 hb5; have k0 := cell_of_row _ _ 0 _ _ _ HX5.out; have k1 := cell_of_row _ _ 1 _ _ _ HX5.out; have k2 := cell_of_row _ _ 2 _ _ _ HX5.out; have k3 := cell_of_row _ _ 3 _ _ _ HX5.out; have k4 := cell_of_row _ _ 4 _ _ _ HX5.out; have k5 := cell_of_row _ _ 5 _ _ _ HX5.out; have z0 := cell_of_row _ _ 0 _ _ _ HI5.out.gg; have z1 := cell_of_row _ _ 1 _ _ _ HI5.out.gg; have z2 := cell_of_row _ _ 2 _ _ _ HI5.out.gg))
        go_roundw
        case rel => exact ⟨i + 1, D2, ls2, _, rfl, ⟨by omega, HS2.out.2.2, HS2.out.2.1, HS2.out.1⟩, HI5.out⟩
        case measure => simp only [intOf, Int.toNat_natCast]; omega

    · obtain rfl : m = i := by have := HA.out.1; omega
      have hin : ¬ ((m : Nat) : Int) < ((m : Nat) : Int) := by omega
      have hinN : decide (m < m) = false := decide_eq_false (by omega)
      go_wp2_with (first
        | (go_at_call 23; refine (valueNil_c _).mono ?_; rintro e w1 ⟨rfl, hb1⟩; have HV1 := hid (HI.out.bw.trans (hb1.mono HI.out.bw.size)); clear hb1)
        | (go_at_call 24; refine (devNil_c _).mono ?_; rintro e wz ⟨rfl, rfl⟩)
        | (go_at_call 25; refine (textNil_c _).mono ?_; rintro e wz ⟨rfl, rfl⟩)
        | (go_at_call 7; refine (HK.out w1 HV1.out).mono ?_; rintro e w2 ⟨rfl, hb2⟩; have HB2 := hid (HV1.out.trans (hb2.mono HV1.out.size)); clear hb2))
      go_ret
      exact ⟨rfl, HB2.out⟩
end Go.Proofs.YtbcileppebpamaaGreatDoor
