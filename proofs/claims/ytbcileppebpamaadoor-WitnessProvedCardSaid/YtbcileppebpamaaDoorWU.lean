/- Walk of law 11: WitnessShares. -/
import Derived.Test.YtbcileppebpamaaDoorWS
import Derived.Test.YtbcileppebpamaaDoorWT
set_option linter.unusedSimpArgs false
set_option linter.unusedVariables false
namespace Go.Proofs.YtbcileppebpamaaDoor
open Go Go.RowKit Go.Shelf
set_option maxRecDepth 100000

theorem Ints.readsA {w : World} {B : Nat} {v : Value} {xs : List Int} (h : Ints w B v xs) : ReadsA w v xs := by
  rcases h.2 with ⟨h2, h3⟩ | ⟨g, cap, cur, h3, h4, h5, h6⟩
  · exact .inl ⟨List.eq_nil_of_length_eq_zero h3, h2⟩
  · rcases h.reads with ⟨rfl, _⟩ | ⟨g', o', c', e1, e2, e3⟩
    · exact .inr ⟨⟨g, 0, none⟩, cap, h3, fun h => by simp at h, fun k hk => by simp at hk⟩
    · exact .inr ⟨⟨g', o', none⟩, c', e1, fun _ => e2, fun k hk => by rw [show (⟨g', o', none⟩ : Addr).add k = ⟨g', o' + k, none⟩ by unfold Addr.add; split <;> simp_all]; exact e3 k hk⟩
theorem ReadsA.toReads {w : World} {v : Value} {xs : List Int} (h : ReadsA w v xs) : Reads w v xs := by
  rcases h with ⟨e, rfl⟩ | ⟨a, c, rfl, ha, hc⟩
  · exact .inl ⟨e, none, 0, rfl⟩
  · by_cases h0 : xs.length = 0
    · have e := List.eq_nil_of_length_eq_zero h0
      subst e
      exact .inl ⟨rfl, some a, c, rfl⟩
    · obtain ⟨g, o, rfl, h4⟩ := ReadsA.plain (n := xs.length) (by omega) hc rfl
      exact .inr ⟨g, o, c, rfl, ha (by omega), h4⟩
set_option maxHeartbeats 4000000 in
theorem lawShares (v b : Int) (u : Value) (xs : List Int) (w : World) (hb : -9223372036854775808 ≤ b ∧ b ≤ 9223372036854775807) (hr : ReadsA w u xs) (hx : xs.length ≤ maxLen) (L : LaidW w) :
    Calls Tryd.prog 4 #[.int .i64 v, .int .i64 b, u] w fun e w' => e = .returned (.bool true) ∧ Below w.heap.size w w' := by
  obtain ⟨p, c, rfl⟩ := hr.form
  obtain ⟨m, hm⟩ : ∃ m, xs.length = m := ⟨_, rfl⟩
  have hml : m ≤ 9223372036854775807 := by rw [← hm]; unfold maxLen at hx; omega
  by_cases h40 : 40 < m
  · have d1 : decide ((40 : Int) < ((m : Nat) : Int)) = true := decide_eq_true (by omega)
    have d2 : (40 : Int) < ((m : Nat) : Int) := by omega
    have HK := hid (known_c w L)
    rw [hm]
    clear hr hx hm
    go_enter Tryd.func4, Tryd.ntmps4
    go_wp2_with (go_at_call 9; refine HK.out.mono ?_; rintro e w1 ⟨rfl, hb1⟩)
    go_ret
    exact ⟨rfl, hb1⟩
  · have d1 : decide ((40 : Int) < ((m : Nat) : Int)) = false := decide_eq_false (by omega)
    have d2 : ¬ (40 : Int) < ((m : Nat) : Int) := by omega
    have hal : Below w.heap.size w (w.alloc (.cells #[] 3)) := (Below.refl _ _).alloc (Nat.le_refl _) _
    have HMD := hid (Ints.made w w.heap.size (Nat.le_refl _))
    have HAL := hid hal
    have HRA := hid hr
    have HRW := hid (hr.below hal)
    have HLX := hid (show xs.length ≤ 1000000 by omega)
    have HKN := hid (fun V (hV : Below w.heap.size w V) => known_c V (L.below hV))
    obtain ⟨S, hS⟩ : ∃ S, splitR v b xs = S := ⟨_, rfl⟩
    obtain ⟨C, hC⟩ : ∃ C, combR b xs = C := ⟨_, rfl⟩
    have HSP := hid (fun (z : Value) V (hz : ReadsA V z xs) => hS ▸ Split_c v b xs z V hz HLX.out hb)
    have HRS := hid (fun (z : Value) V (hz : ReadsA V z xs) => hS ▸ rsplit_c v b xs z V hz HLX.out hb)
    have HCO := hid (fun (z : Value) V (hz : ReadsA V z xs) => hC ▸ Combine_c b xs z V hz HLX.out)
    have HRC := hid (fun (z : Value) V (hz : ReadsA V z xs) => hC ▸ rcomb_c b xs z V hz HLX.out)
    have HSL := hid (show S.1.length ≤ 9223372036854775807 by
      rw [← hS]
      unfold splitR
      split
      · simp
      · split
        · simp
        · simp; omega)
    have HSM := hid (fun (y z : Value) (ys : List Int) V (hy : Reads V y ys) (hz : Reads V z ys) (hl : ys.length ≤ 9223372036854775807) => by
      have h := sam_c y z ys ys V hy hz hl hl
      rw [decide_eq_true rfl] at h
      exact h)
    obtain ⟨S1, S2⟩ := S
    obtain ⟨C1, C2⟩ := C
    have es : (S2 == S2) = true := by simp
    have ec : (C1 == C1) = true := by simp
    have ec2 : (C2 == C2) = true := by simp
    have FL := hid trivial
    rw [hm] at HRA HRW ⊢
    have HM := hid hm
    clear hr hx hm hal hS hC L
    go_enter Tryd.func4, Tryd.ntmps4
    go_wp2_with (first
      | (refine wp_append_reads rfl (.tmp 20) (.tmp 21) rfl w.heap.size _ [] rfl HMD.out _ xs rfl HRW.out (by have := HLX.out; simp; omega) HAL.out.size ?_; intro v1 w1 hv1 hg1; rw [List.nil_append] at hv1; have hb1 := HAL.out.grown hg1 HAL.out.size (fun k hk => HMD.out.own k hk); have HV1 := hid hv1; have HB1 := hid hb1; clear hv1 hg1 hb1)
      | (go_at_call 15; refine (HSP.out _ _ HV1.out.readsA).mono ?_; rintro e w2 ⟨l1, rfl, hl1, hb2⟩; have HL1 := hid hl1; have HV2 := hid (HV1.out.below hb2); have HB2 := hid (HB1.out.trans (hb2.mono HB1.out.size)); clear hl1 hb2)
      | (go_at_call 16; refine (HCO.out _ _ HV2.out.readsA).mono ?_; rintro e w3 ⟨rfl, hb3⟩; have HL3 := hid (HL1.out.below hb3); have HV3 := hid (HV2.out.below hb3); have HB3 := hid (HB2.out.trans (hb3.mono HB2.out.size)); clear hb3)
      | (go_at_call 17; refine (HRS.out _ _ (HRA.out.below HB3.out)).mono ?_; rintro e w4 ⟨l2, rfl, hl2, hb4⟩; have HL4 := hid (HL3.out.below hb4); have HV4 := hid (HV3.out.below hb4); have HB4 := hid (HB3.out.trans (hb4.mono HB3.out.size)); have HR4 := hid hl2; clear hl2 hb4)
      | (go_at_call 18; refine (HRC.out _ _ (HRA.out.below HB4.out)).mono ?_; rintro e w5 ⟨rfl, rfl⟩)
      | (go_at_call 19; have hq := FL; clear hq FL; refine (HSM.out _ _ xs _ HV4.out.readsA.toReads (HRA.out.below HB4.out).toReads (by rw [HM.out]; exact hml)).mono ?_; rintro e w6 ⟨rfl, hb6⟩; have HL6 := hid (HL4.out.below hb6); have HR6 := hid (HR4.out.below hb6); have HB6 := hid (HB4.out.trans (hb6.mono HB4.out.size)); clear hb6)
      | (go_at_call 19; refine (HSM.out _ _ S1 _ HL6.out.readsA.toReads HR6.out.readsA.toReads HSL.out).mono ?_; rintro e w7 ⟨rfl, hb7⟩; have HB7 := hid (HB6.out.trans (hb7.mono HB6.out.size)); clear hb7)
      | (go_at_call 9; refine (HKN.out _ HB7.out).mono ?_; rintro e w8 ⟨rfl, hb8⟩; have HB8 := hid (HB7.out.trans (hb8.mono HB7.out.size)); clear hb8))
    go_ret
    exact ⟨rfl, HB8.out⟩
end Go.Proofs.YtbcileppebpamaaDoor
