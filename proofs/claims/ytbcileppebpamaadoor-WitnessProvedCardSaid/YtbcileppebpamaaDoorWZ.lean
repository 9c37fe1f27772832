/- Walk of law 11: WitnessHashes. -/
import Derived.Test.YtbcileppebpamaaDoorWY
import Derived.Test.YtbcileppebpamaaDoorWS
set_option linter.unusedSimpArgs false
set_option linter.unusedVariables false
namespace Go.Proofs.YtbcileppebpamaaDoor
open Go Go.RowKit Go.Shelf
set_option maxRecDepth 100000

set_option maxHeartbeats 8000000 in
theorem lawHashes (s : ByteArray) (p v : Int) (t : ByteArray) (hs : s.size ≤ maxLen) (hp : -9223372036854775808 ≤ p ∧ p ≤ 9223372036854775807) (hv : -9223372036854775808 ≤ v ∧ v ≤ 9223372036854775807) (ht : t.size ≤ maxLen) (w : World) (L : LaidW w) :
    Calls Tryd.prog 3 #[.string s, .agg #[.int .i64 p, .int .i64 v, .string t]] w fun e w' => e = .returned (.bool true) ∧ Below w.heap.size w w' := by
  have hs' : s.size ≤ 9223372036854775807 := by unfold maxLen at hs; omega
  have ht' : t.size ≤ 9223372036854775807 := by unfold maxLen at ht; omega
  have hx := heap_alloc_new w (.cells #[.int .i64 p, .int .i64 v, .string t] 23)
  have hb : Below w.heap.size w (w.alloc (.cells #[.int .i64 p, .int .i64 v, .string t] 23)) := (Below.refl _ _).alloc (Nat.le_refl _) _
  have hlt : w.heap.size + 1 ≤ (w.alloc (.cells #[.int .i64 p, .int .i64 v, .string t] 23)).heap.size := by simp
  have k0 := cell_of_row _ w.heap.size 0 _ _ _ hx
  have k1 := cell_of_row _ w.heap.size 1 _ _ _ hx
  have k2 := cell_of_row _ w.heap.size 2 _ _ _ hx
  have HKN := hid (fun V (hV : Below w.heap.size w V) => known_c V (L.below hV))
  have HX := hid (And.intro k0 (And.intro k1 (And.intro k2 hb)))
  obtain ⟨m, hm⟩ : ∃ m, s.size = m := ⟨_, rfl⟩
  obtain ⟨n, hn⟩ : ∃ n, t.size = n := ⟨_, rfl⟩
  rw [hm] at hs'
  rw [hn] at ht'
  by_cases h1 : 1100 < m
  · have d1 : decide ((1100 : Int) < ((m : Nat) : Int)) = true := decide_eq_true (by omega)
    have d2 : decide (1100 < m) = true := decide_eq_true h1
    have hm' := hm
    clear k0 k1 k2 hx hb h1
    go_enter Tryd.func3, Tryd.ntmps3
    go_upto_region 1 with fail
    generalize w.alloc (.cells #[.int .i64 p, .int .i64 v, .string t] 23) = W0 at HX ⊢
    have ⟨k0, k1, k2, hb⟩ := HX.out
    have HB := hid hb
    clear hb HX
    go_wp2_with (go_at_call 9; refine (HKN.out _ HB.out).mono ?_; rintro e w9 ⟨rfl, hb9⟩; have HB9 := hid ((HB.out).trans (hb9.mono (HB.out).size)); clear hb9)
    go_ret
    exact ⟨rfl, HB9.out⟩
  · have d1 : decide ((1100 : Int) < ((m : Nat) : Int)) = false := decide_eq_false (by omega)
    have d2 : decide (1100 < m) = false := decide_eq_false h1
    by_cases h2 : 100 < n
    · have c1 : decide ((100 : Int) < ((n : Nat) : Int)) = true := decide_eq_true (by omega)
      have c2 : decide (100 < n) = true := decide_eq_true h2
      clear k0 k1 k2 hx hb h1 h2
      go_enter Tryd.func3, Tryd.ntmps3
      go_upto_region 1 with fail
      generalize w.alloc (.cells #[.int .i64 p, .int .i64 v, .string t] 23) = W0 at HX ⊢
      have ⟨k0, k1, k2, hb⟩ := HX.out
      have HB := hid hb
      clear hb HX
      go_wp2_with (go_at_call 9; refine (HKN.out _ HB.out).mono ?_; rintro e w9 ⟨rfl, hb9⟩; have HB9 := hid ((HB.out).trans (hb9.mono (HB.out).size)); clear hb9)
      go_ret
      exact ⟨rfl, HB9.out⟩
    · have c1 : decide ((100 : Int) < ((n : Nat) : Int)) = false := decide_eq_false (by omega)
      have c2 : decide (100 < n) = false := decide_eq_false h2
      have HH := hid (fun V (hV : Below w.heap.size w V) => Hash_c s (by omega) V (L.below hV))
      have HSE := hid (fun V (hV : Below w.heap.size w V) => Seal_c p v hp hv t (by omega) V (L.below hV))
      have HRH := hid (fun V => rhash_c s (by omega) V)
      have HRB := hid (fun V => rbox_c p v t (by omega) V)
      obtain ⟨hh, hhe⟩ : ∃ h : ByteArray, ⟨(hashL s.data.toList).toArray⟩ = h := ⟨_, rfl⟩
      rw [hhe] at HH HRH
      have HXR := hid hx
      have HB0 := hid hb
      have ehh : (hh.toList == hh.toList) = true := by simp
      have ehs : sameB hh hh = true := sameB_self hh
      have FL := hid trivial
      have hmk : ((m : Nat) : Int) ≤ 1100 := by omega
      have hn100 : n ≤ 100 := by omega
      clear k0 k1 k2 hx hb HX hlt h1 h2
      by_cases h3 : 1000 < m
      · have b1 : decide ((1000 : Int) < ((m : Nat) : Int)) = true := decide_eq_true (by omega)
        have b2 : decide (((m : Nat) : Int) ≤ 1000) = false := decide_eq_false (by omega)
        have b3 : decide (1000 < m) = true := decide_eq_true h3
        have b4 : decide (m ≤ 1000) = false := decide_eq_false (by omega)
        simp only [hm, show ¬ m ≤ 1000 from by omega, if_false] at HH
        cases hbx : isBoxL p v t.data.toList with
        | false =>
          rw [hbx] at HRB HSE
          simp only [Bool.false_eq_true, if_false] at HSE
          clear hbx h3
          go_enter Tryd.func3, Tryd.ntmps3
          go_upto_region 1 with fail
          generalize w.alloc (.cells #[.int .i64 p, .int .i64 v, .string t] 23) = W0 at HXR HB0 ⊢
          have k0 := cell_of_row _ _ 0 _ _ _ HXR.out
          have k1 := cell_of_row _ _ 1 _ _ _ HXR.out
          have k2 := cell_of_row _ _ 2 _ _ _ HXR.out
          go_wp2_with (first
            | (go_at_call 10; refine (HH.out _ HB0.out).mono ?_; rintro e w1 ⟨rfl, hb1⟩; have HB1 := hid (HB0.out.trans (hb1.mono HB0.out.size)); have hx1 := heap_below hb1 HXR.out (heap_lt HXR.out); have HX1 := hid hx1; have a10 := cell_of_row _ _ 0 _ _ _ hx1; have a11 := cell_of_row _ _ 1 _ _ _ hx1; have a12 := cell_of_row _ _ 2 _ _ _ hx1; clear hb1 hx1)
            | (go_at_call 11; refine (HSE.out _ HB1.out).mono ?_; rintro e w2 ⟨rfl, hb2⟩; have HB2 := hid (HB1.out.trans (hb2.mono HB1.out.size)); have hx2 := heap_below hb2 HX1.out (heap_lt HX1.out); have HX2 := hid hx2; have a20 := cell_of_row _ _ 0 _ _ _ hx2; have a21 := cell_of_row _ _ 1 _ _ _ hx2; have a22 := cell_of_row _ _ 2 _ _ _ hx2; clear hb2 hx2)
            | (go_at_call 13; refine (HRB.out _).mono ?_; rintro e w4 ⟨rfl, hb4⟩; have HB4 := hid (HB2.out.trans (hb4.mono HB2.out.size)); have hx4 := heap_below hb4 HX2.out (heap_lt HX2.out); have HX4 := hid hx4; have a40 := cell_of_row _ _ 0 _ _ _ hx4; have a41 := cell_of_row _ _ 1 _ _ _ hx4; have a42 := cell_of_row _ _ 2 _ _ _ hx4; clear hb4 hx4)
            | (go_at_call 9; refine (HKN.out _ HB4.out).mono ?_; rintro e w9 ⟨rfl, hb9⟩; have HB9 := hid ((HB4.out).trans (hb9.mono (HB4.out).size)); clear hb9))
          go_ret
          exact ⟨rfl, HB9.out⟩
        | true =>
          rw [hbx] at HRB HSE
          simp only [if_true] at HSE
          simp only [isBoxL, Bool.and_eq_true, decide_eq_true_eq] at hbx
          obtain ⟨P, rfl⟩ : ∃ P : Nat, p = ((P : Nat) : Int) := ⟨p.toNat, by omega⟩
          obtain ⟨V, rfl⟩ : ∃ V : Nat, v = ((V : Nat) : Int) := ⟨v.toNat, by omega⟩
          have HRT := hid (fun W => rtext_c P V (by omega) (by omega) t (by omega) W)
          obtain ⟨tx, htx⟩ : ∃ x : ByteArray, ⟨(boxL ((P : Nat) : Int) ((V : Nat) : Int) t.data.toList).toArray⟩ = x := ⟨_, rfl⟩
          have htxl : tx.data.toList = boxL ((P : Nat) : Int) ((V : Nat) : Int) t.data.toList := by rw [← htx]
          have htxs : tx.size ≤ 1000000 := by
            have h1 := Lib.itoa_length_le ((P : Nat) : Int) (by omega) (by omega)
            have h2 := Lib.itoa_length_le ((V : Nat) : Int) (by omega) (by omega)
            have h3 : tx.size = (boxL ((P : Nat) : Int) ((V : Nat) : Int) t.data.toList).length := by rw [← htxl, Array.length_toList]; rfl
            have h4 : t.data.toList.length = n := by rw [Array.length_toList, ← hn]; rfl
            rw [h3]
            simp only [boxL, List.length_append, List.length_singleton, h4]
            omega
          have HRH2 := hid (fun W => rhash_c tx htxs W)
          rw [htx] at HRT
          rw [htxl] at HRH2
          obtain ⟨gg, hgg⟩ : ∃ x : ByteArray, ⟨(hashL (boxL ((P : Nat) : Int) ((V : Nat) : Int) t.data.toList)).toArray⟩ = x := ⟨_, rfl⟩
          rw [hgg] at HRH2 HSE
          have egg : (gg.toList == gg.toList) = true := by simp
          have egs : sameB gg gg = true := sameB_self gg
          clear hbx h3 htx htxl htxs hgg
          go_enter Tryd.func3, Tryd.ntmps3
          go_upto_region 1 with fail
          generalize w.alloc (.cells #[.int .i64 ((P : Nat) : Int), .int .i64 ((V : Nat) : Int), .string t] 23) = W0 at HXR HB0 ⊢
          have k0 := cell_of_row _ _ 0 _ _ _ HXR.out
          have k1 := cell_of_row _ _ 1 _ _ _ HXR.out
          have k2 := cell_of_row _ _ 2 _ _ _ HXR.out
          go_wp2_with (first
            | (go_at_call 10; refine (HH.out _ HB0.out).mono ?_; rintro e w1 ⟨rfl, hb1⟩; have HB1 := hid (HB0.out.trans (hb1.mono HB0.out.size)); have hx1 := heap_below hb1 HXR.out (heap_lt HXR.out); have HX1 := hid hx1; have a10 := cell_of_row _ _ 0 _ _ _ hx1; have a11 := cell_of_row _ _ 1 _ _ _ hx1; have a12 := cell_of_row _ _ 2 _ _ _ hx1; clear hb1 hx1)
            | (go_at_call 11; refine (HSE.out _ HB1.out).mono ?_; rintro e w2 ⟨rfl, hb2⟩; have HB2 := hid (HB1.out.trans (hb2.mono HB1.out.size)); have hx2 := heap_below hb2 HX1.out (heap_lt HX1.out); have HX2 := hid hx2; have a20 := cell_of_row _ _ 0 _ _ _ hx2; have a21 := cell_of_row _ _ 1 _ _ _ hx2; have a22 := cell_of_row _ _ 2 _ _ _ hx2; clear hb2 hx2)
            | (go_at_call 13; refine (HRB.out _).mono ?_; rintro e w4 ⟨rfl, hb4⟩; have HB4 := hid (HB2.out.trans (hb4.mono HB2.out.size)); have hx4 := heap_below hb4 HX2.out (heap_lt HX2.out); have HX4 := hid hx4; have a40 := cell_of_row _ _ 0 _ _ _ hx4; have a41 := cell_of_row _ _ 1 _ _ _ hx4; have a42 := cell_of_row _ _ 2 _ _ _ hx4; clear hb4 hx4)
            | (go_at_call 14; refine (HRT.out _).mono ?_; rintro e w5 ⟨rfl, hb5⟩; have HB5 := hid (HB4.out.trans (hb5.mono HB4.out.size)); clear hb5)
            | (go_at_call 12; refine (HRH2.out _).mono ?_; rintro e w6 ⟨rfl, hb6⟩; have HB6 := hid (HB5.out.trans (hb6.mono HB5.out.size)); clear hb6)
            | (go_at_call 9; refine (HKN.out _ HB6.out).mono ?_; rintro e w9 ⟨rfl, hb9⟩; have HB9 := hid ((HB6.out).trans (hb9.mono (HB6.out).size)); clear hb9))
          go_ret
          exact ⟨rfl, HB9.out⟩
      · have b1 : decide ((1000 : Int) < ((m : Nat) : Int)) = false := decide_eq_false (by omega)
        have b2 : decide (((m : Nat) : Int) ≤ 1000) = true := decide_eq_true (by omega)
        have b3 : decide (1000 < m) = false := decide_eq_false h3
        have b4 : decide (m ≤ 1000) = true := decide_eq_true (by omega)
        simp only [hm, show m ≤ 1000 from by omega, if_true] at HH
        cases hbx : isBoxL p v t.data.toList with
        | false =>
          rw [hbx] at HRB HSE
          simp only [Bool.false_eq_true, if_false] at HSE
          clear hbx h3
          go_enter Tryd.func3, Tryd.ntmps3
          go_upto_region 1 with fail
          generalize w.alloc (.cells #[.int .i64 p, .int .i64 v, .string t] 23) = W0 at HXR HB0 ⊢
          have k0 := cell_of_row _ _ 0 _ _ _ HXR.out
          have k1 := cell_of_row _ _ 1 _ _ _ HXR.out
          have k2 := cell_of_row _ _ 2 _ _ _ HXR.out
          go_wp2_with (first
            | (go_at_call 10; refine (HH.out _ HB0.out).mono ?_; rintro e w1 ⟨rfl, hb1⟩; have HB1 := hid (HB0.out.trans (hb1.mono HB0.out.size)); have hx1 := heap_below hb1 HXR.out (heap_lt HXR.out); have HX1 := hid hx1; have a10 := cell_of_row _ _ 0 _ _ _ hx1; have a11 := cell_of_row _ _ 1 _ _ _ hx1; have a12 := cell_of_row _ _ 2 _ _ _ hx1; clear hb1 hx1)
            | (go_at_call 11; refine (HSE.out _ HB1.out).mono ?_; rintro e w2 ⟨rfl, hb2⟩; have HB2 := hid (HB1.out.trans (hb2.mono HB1.out.size)); have hx2 := heap_below hb2 HX1.out (heap_lt HX1.out); have HX2 := hid hx2; have a20 := cell_of_row _ _ 0 _ _ _ hx2; have a21 := cell_of_row _ _ 1 _ _ _ hx2; have a22 := cell_of_row _ _ 2 _ _ _ hx2; clear hb2 hx2)
            | (go_at_call 12; have hq := FL; clear hq FL; refine (HRH.out _).mono ?_; rintro e w3 ⟨rfl, hb3⟩; have HB3 := hid (HB2.out.trans (hb3.mono HB2.out.size)); have hx3 := heap_below hb3 HX2.out (heap_lt HX2.out); have HX3 := hid hx3; have a30 := cell_of_row _ _ 0 _ _ _ hx3; have a31 := cell_of_row _ _ 1 _ _ _ hx3; have a32 := cell_of_row _ _ 2 _ _ _ hx3; clear hb3 hx3)
            | (go_at_call 13; refine (HRB.out _).mono ?_; rintro e w4 ⟨rfl, hb4⟩; have HB4 := hid (HB3.out.trans (hb4.mono HB3.out.size)); have hx4 := heap_below hb4 HX3.out (heap_lt HX3.out); have HX4 := hid hx4; have a40 := cell_of_row _ _ 0 _ _ _ hx4; have a41 := cell_of_row _ _ 1 _ _ _ hx4; have a42 := cell_of_row _ _ 2 _ _ _ hx4; clear hb4 hx4)
            | (go_at_call 9; refine (HKN.out _ HB4.out).mono ?_; rintro e w9 ⟨rfl, hb9⟩; have HB9 := hid ((HB4.out).trans (hb9.mono (HB4.out).size)); clear hb9))
          go_ret
          exact ⟨rfl, HB9.out⟩
        | true =>
          rw [hbx] at HRB HSE
          simp only [if_true] at HSE
          simp only [isBoxL, Bool.and_eq_true, decide_eq_true_eq] at hbx
          obtain ⟨P, rfl⟩ : ∃ P : Nat, p = ((P : Nat) : Int) := ⟨p.toNat, by omega⟩
          obtain ⟨V, rfl⟩ : ∃ V : Nat, v = ((V : Nat) : Int) := ⟨v.toNat, by omega⟩
          have HRT := hid (fun W => rtext_c P V (by omega) (by omega) t (by omega) W)
          obtain ⟨tx, htx⟩ : ∃ x : ByteArray, ⟨(boxL ((P : Nat) : Int) ((V : Nat) : Int) t.data.toList).toArray⟩ = x := ⟨_, rfl⟩
          have htxl : tx.data.toList = boxL ((P : Nat) : Int) ((V : Nat) : Int) t.data.toList := by rw [← htx]
          have htxs : tx.size ≤ 1000000 := by
            have h1 := Lib.itoa_length_le ((P : Nat) : Int) (by omega) (by omega)
            have h2 := Lib.itoa_length_le ((V : Nat) : Int) (by omega) (by omega)
            have h3 : tx.size = (boxL ((P : Nat) : Int) ((V : Nat) : Int) t.data.toList).length := by rw [← htxl, Array.length_toList]; rfl
            have h4 : t.data.toList.length = n := by rw [Array.length_toList, ← hn]; rfl
            rw [h3]
            simp only [boxL, List.length_append, List.length_singleton, h4]
            omega
          have HRH2 := hid (fun W => rhash_c tx htxs W)
          rw [htx] at HRT
          rw [htxl] at HRH2
          obtain ⟨gg, hgg⟩ : ∃ x : ByteArray, ⟨(hashL (boxL ((P : Nat) : Int) ((V : Nat) : Int) t.data.toList)).toArray⟩ = x := ⟨_, rfl⟩
          rw [hgg] at HRH2 HSE
          have egg : (gg.toList == gg.toList) = true := by simp
          have egs : sameB gg gg = true := sameB_self gg
          clear hbx h3 htx htxl htxs hgg
          go_enter Tryd.func3, Tryd.ntmps3
          go_upto_region 1 with fail
          generalize w.alloc (.cells #[.int .i64 ((P : Nat) : Int), .int .i64 ((V : Nat) : Int), .string t] 23) = W0 at HXR HB0 ⊢
          have k0 := cell_of_row _ _ 0 _ _ _ HXR.out
          have k1 := cell_of_row _ _ 1 _ _ _ HXR.out
          have k2 := cell_of_row _ _ 2 _ _ _ HXR.out
          go_wp2_with (first
            | (go_at_call 10; refine (HH.out _ HB0.out).mono ?_; rintro e w1 ⟨rfl, hb1⟩; have HB1 := hid (HB0.out.trans (hb1.mono HB0.out.size)); have hx1 := heap_below hb1 HXR.out (heap_lt HXR.out); have HX1 := hid hx1; have a10 := cell_of_row _ _ 0 _ _ _ hx1; have a11 := cell_of_row _ _ 1 _ _ _ hx1; have a12 := cell_of_row _ _ 2 _ _ _ hx1; clear hb1 hx1)
            | (go_at_call 11; refine (HSE.out _ HB1.out).mono ?_; rintro e w2 ⟨rfl, hb2⟩; have HB2 := hid (HB1.out.trans (hb2.mono HB1.out.size)); have hx2 := heap_below hb2 HX1.out (heap_lt HX1.out); have HX2 := hid hx2; have a20 := cell_of_row _ _ 0 _ _ _ hx2; have a21 := cell_of_row _ _ 1 _ _ _ hx2; have a22 := cell_of_row _ _ 2 _ _ _ hx2; clear hb2 hx2)
            | (go_at_call 12; have hq := FL; clear hq FL; refine (HRH.out _).mono ?_; rintro e w3 ⟨rfl, hb3⟩; have HB3 := hid (HB2.out.trans (hb3.mono HB2.out.size)); have hx3 := heap_below hb3 HX2.out (heap_lt HX2.out); have HX3 := hid hx3; have a30 := cell_of_row _ _ 0 _ _ _ hx3; have a31 := cell_of_row _ _ 1 _ _ _ hx3; have a32 := cell_of_row _ _ 2 _ _ _ hx3; clear hb3 hx3)
            | (go_at_call 13; refine (HRB.out _).mono ?_; rintro e w4 ⟨rfl, hb4⟩; have HB4 := hid (HB3.out.trans (hb4.mono HB3.out.size)); have hx4 := heap_below hb4 HX3.out (heap_lt HX3.out); have HX4 := hid hx4; have a40 := cell_of_row _ _ 0 _ _ _ hx4; have a41 := cell_of_row _ _ 1 _ _ _ hx4; have a42 := cell_of_row _ _ 2 _ _ _ hx4; clear hb4 hx4)
            | (go_at_call 14; refine (HRT.out _).mono ?_; rintro e w5 ⟨rfl, hb5⟩; have HB5 := hid (HB4.out.trans (hb5.mono HB4.out.size)); clear hb5)
            | (go_at_call 12; refine (HRH2.out _).mono ?_; rintro e w6 ⟨rfl, hb6⟩; have HB6 := hid (HB5.out.trans (hb6.mono HB5.out.size)); clear hb6)
            | (go_at_call 9; refine (HKN.out _ HB6.out).mono ?_; rintro e w9 ⟨rfl, hb9⟩; have HB9 := hid ((HB6.out).trans (hb9.mono (HB6.out).size)); clear hb9))
          go_ret
          exact ⟨rfl, HB9.out⟩
end Go.Proofs.YtbcileppebpamaaDoor
