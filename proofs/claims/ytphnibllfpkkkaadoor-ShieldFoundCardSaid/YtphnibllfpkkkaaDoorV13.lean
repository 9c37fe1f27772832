/- The law ShieldShares: the walk. -/
import Derived.Test.YtphnibllfpkkkaaDoorV12
import Derived.Test.YtphnibllfpkkkaaDoorV10
import Derived.Test.YtphnibllfpkkkaaDoorG3
namespace Go.Proofs.YtphnibllfpkkkaaDoor
open Go Go.RowKit
set_option maxRecDepth 100000

/-- A row of short words. -/
def hrow (n : Nat) (S : Nat → Nat) : Array Value := Array.ofFn (n := n) fun i => .int .u16 ((S i : Nat) : Int)
@[simp] theorem hrow_size (n : Nat) (S : Nat → Nat) : (hrow n S).size = n := by simp [hrow]
theorem hrow_get (n : Nat) (S : Nat → Nat) (i : Nat) (h : i < n) : (hrow n S)[i]? = some (.int .u16 ((S i : Nat) : Int)) := by simp [hrow, h]
theorem cell_hrow {w : World} {g n : Nat} {S : Nat → Nat} {t : TypeId} (hg : w.heap[g]? = some (.cells (hrow n S) t (0, 0))) (i : Nat) (hi : i < n) : w.cell? ⟨g, i, none⟩ = some (.int .u16 ((S i : Nat) : Int)) := by
  rw [cell_of_row _ _ i _ _ (0, 0) hg, hrow_get _ _ _ hi]
/-- The first k sets laid. -/
def setsTo (S : Nat → Nat) (k : Nat) : Nat → Nat := fun j => if j < k then S j else 0
theorem sets_step (S : Nat → Nat) (k : Nat) : irow 16 (upd (cst (setsTo S k)) k ((S k : Nat) : Int)) = irow 16 (cst (setsTo S (k + 1))) := by
  rw [upd_cst]
  refine irow_congr fun j _ => ?_
  simp only [cst, upN, setsTo]
  by_cases e : j = k
  · subst e; rw [if_pos rfl, if_pos (by omega)]
  · rw [if_neg e]
    by_cases h : j < k
    · rw [if_pos h, if_pos (by omega)]
    · rw [if_neg h, if_neg (by omega)]
theorem sets_all (S : Nat → Nat) : irow 16 (cst (setsTo S 16)) = irow 16 (cst S) := irow_congr fun j hj => by simp only [cst, setsTo]; rw [if_pos hj]
theorem upN_upN (S : Nat → Nat) (q u v : Nat) : upN (upN S q u) q v = upN S q v := by
  funext i; simp only [upN]; split <;> rfl

set_option maxHeartbeats 4000000 in
theorem lawShares_main (p j : Nat) (hj : j < 256) (S : Nat → Nat) (hS : ∀ i, i < 16 → S i < 65536) (q f : Nat) (hq : p % 16 = q) (hf : j % 16 = f)
    (n0 : Nat) (Fm : Nat → Int) (hn : cntN (upN S q 65535) 65536 = n0) (hFm : fstN (upN S q 65535) 65536 = Fm) (hn0 : n0 ≤ 65536) (C : Nat → Nat) (V : Nat → Nat) (hV : ∀ k, V k = 15 * 2 ^ (4 * k)) (hV6 : ∀ k, k < 4 → V k < 65536) (hC : ∀ k, k < 4 → cntN (upN S q (V k)) 65536 = C k) (hsum : sumN C 4 = n0) (hCle : ∀ k, k ≤ 4 → sumN C k ≤ n0)
    (c : Nat) (y : Nat) (hc : cntN (upN (fun _ => 65535) 14 (2 ^ f)) 65536 = c) (hy : onT f 4 = y) (hcy : c = if y % 2 = 1 then 0 else 8192)
    (hfst : n0 = 0 ∨ n0 ≠ 0 ∧ ∃ M : Nat → Nat, (∀ i, i < 4 → M i < 16) ∧ Fm = cst M ∧ ∀ i, i < 16 → bitB (upN S q 65535 i) (der M i) = true) (w : World) (L : Base2 w) :
    Calls Tryd.prog 12 #[.int .u8 (p : Nat), .int .u8 (j : Nat), .agg (hrow 16 S)] w fun e w' => e = .returned (.bool true) ∧ Below w.heap.size w w' := by
  have hq16 : q < 16 := by omega
  have hf16 : f < 16 := by omega
  have hUq : ∀ v, v < 65536 → ∀ i, i < 16 → upN S q v i < 65536 := fun v hv i hi => by
    have := hS i hi
    simp only [upN]; split <;> omega
  have hEf : ∀ i, i < 16 → upN (fun _ => 65535) 14 (2 ^ f) i < 65536 := fun i hi => by
    have : 2 ^ f ≤ 2 ^ 15 := Nat.pow_le_pow_right (by omega) (by omega)
    simp only [upN]; split <;> omega
  have HC0 := hid (fun W (hb : Below w.heap.size w W) => Count_yes (upN S q 65535) (hUq _ (by omega)) n0 Fm hn hFm W (L.a.below hb) (L.b.below hb))
  have HCk := hid (fun k (hk : k < 4) W (hb : Below w.heap.size w W) => Count_yes (upN S q (V k)) (hUq _ (hV6 k hk)) (C k) _ (hC k hk) rfl W (L.a.below hb) (L.b.below hb))
  have HCj := hid (fun W (hb : Below w.heap.size w W) => Count_yes (upN (fun _ => 65535) 14 (2 ^ f)) hEf c _ hc rfl W (L.a.below hb) (L.b.below hb))
  have HL := hid (fun W (hb : Below w.heap.size w W) => known_b W (L.a.below hb))
  have HD := hid (fun M (hM : ∀ i, i < 4 → M i < 16) W (hb : Below w.heap.size w W) => Derive_yes M hM W (L.a.below hb))
  have HF := hid (fun W => figure_c j hj W)
  have HO := hid (fun W => ones_c f hf16 W)
  rw [hf] at HF
  rw [hy] at HO
  have HV := hid hV
  have HSum := hid (And.intro hsum hCle)
  have HS := hid hS
  have Hfst := hid hfst
  obtain ⟨xf, hxf⟩ : ∃ x : Nat, 2 ^ f = x := ⟨_, rfl⟩
  have hxf' : (1 : Int) * 2 ^ f = ((xf : Nat) : Int) := by rw [← hxf]; push_cast; omega
  have hxl : xf ≤ 2 ^ 15 := by rw [← hxf]; exact Nat.pow_le_pow_right (by omega) (by omega)
  have hxp : (2 : Int) ^ f = ((xf : Nat) : Int) := by rw [← hxf]; push_cast; rfl
  have hwx := wrap_nat xf (by omega)
  have Hpar : Hid ((((y : Nat) : Int) % 2 = 1 ∧ c = 0) ∨ (((y : Nat) : Int) % 2 = 0 ∧ c = 8192)) := by
    by_cases h : y % 2 = 1
    · exact Or.inl ⟨by omega, by rw [hcy, if_pos h]⟩
    · exact Or.inr ⟨by omega, by rw [hcy, if_neg h]⟩
  rw [hxf] at HCj
  generalize hF2 : fstN (upN (fun _ => 65535) 14 xf) 65536 = Fe at HCj
  clear hxf hxl hn hFm hC hsum hCle hc hy hcy hfst hS hUq hEf hV hV6 hF2 L
  have hmod : ((p : Nat) : Int) % 16 = ((q : Nat) : Int) := by omega
  have hq16' : ((q : Nat) : Int) < 16 := by omega
  have hwq := wrap_nat q (by omega)
  have hwf := wrap_natU f (by omega)
  clear hq hj hf
  have h0 := heap_alloc_new w (.cells (hrow 16 S) 84)
  have hs0 := heap_alloc2_new w (.cells (hrow 16 S) 84) (.cells (irow 16 (fun _ => 0)) 78)
  have hh0 := heap_alloc2_old w (.cells (hrow 16 S) 84) (.cells (irow 16 (fun _ => 0)) 78)
  have hb0 : Below w.heap.size w ((w.alloc (.cells (hrow 16 S) 84)).alloc (.cells (irow 16 (fun _ => 0)) 78)) := ((Below.refl _ _).alloc (Nat.le_refl _) _).alloc (by simp) _
  go_enter Tryd.func12, Tryd.ntmps12
  go_wp2_with (rw [zeros16]; refine strow arrSets _ _ rfl rfl _ (fun _ => 0) rfl rfl _ _ hs0 ?_; have hs1 := setRow_heap _ _ _ (irow 16 (fun _ => 0)) _ _ hs0; have hb1 := below_setRow hb0 (show w.heap.size ≤ w.heap.size + 1 by omega) (irow 16 (fun _ => 0)); have hh1 := (setRow_other _ (w.heap.size + 1) w.heap.size (irow 16 (fun _ => 0)) (by omega)).trans hh0; clear hs0 hh0 hb0 h0; generalize World.setRow _ _ _ = w1 at hs1 hb1 hh1 ⊢)
  generalize hB : w.heap.size = B at *
  rw [show irow 16 (fun _ => 0) = irow 16 (cst (setsTo S 0)) from irow_congr fun j _ => by simp [setsTo]] at hs1
  go_loopw [8] (fun i wr => ∃ k : Nat, k ≤ 16 ∧ i = .int .i64 k ∧ wr.heap[B + 1]? = some (.cells (irow 16 (cst (setsTo S k))) 78 (0, 0)) ∧ wr.heap[B]? = some (.cells (hrow 16 S) 84 (0, 0)) ∧ Below B w wr) (fun i _ => 16 - (intOf i).toNat)
  case atStart => exact ⟨0, by omega, rfl, hs1, hh1, hb1⟩
  case round =>
    clear hs1 hh1 hb1
    obtain ⟨k, hk, rfl, hs, hh, hb⟩ := hrel
    by_cases hlt : k < 16
    · have hlt' : ((k : Nat) : Int) < 16 := by omega
      have hck := cell_hrow hh k hlt
      have hcs := cell_irow hs k hlt
      have hfz := frozen_of_row _ _ k _ _ hs
      have hw := wrap_nat (S k) (by have := HS.out k hlt; omega)
      have Hs := hid hs
      have Hh := hid hh
      have Hst := hid (sets_step S k)
      clear hs hh
      go_wp2_with fail
      go_roundw
      case rel => exact ⟨k + 1, by omega, by go_num, by rw [set_irow Hs.out, Hst.out], (heap_setCell_other _ ⟨B + 1, k, none⟩ B _ (by show B ≠ B + 1; omega)).trans Hh.out, hb.setCell (Nat.le_add_right _ _) _⟩
      case measure => simp [intOf]; omega
    · have hge : ¬ ((k : Nat) : Int) < 16 := by omega
      obtain rfl : k = 16 := by omega
      rw [sets_all] at hs
      have hcq := cell_irow hs q hq16
      have hfz := frozen_of_row _ _ q _ _ hs
      have hs2 := set_irow hs q ((65535 : Nat) : Int)
      rw [upd_cst] at hs2
      have hb2 := hb.setCell (show B ≤ B + 1 by omega) (p := ⟨B + 1, q, none⟩) (.int .i64 ((65535 : Nat) : Int))
      clear hs hh hb
      have hn0' : ¬ ((n0 : Nat) : Int) < 0 := by omega
      have hn1' : ¬ (65536 : Int) < ((n0 : Nat) : Int) := by omega
      rcases Hfst.out with hz | ⟨hnz, M, hM, hMe, hbit⟩
      · have hpos : ¬ (0 : Int) < ((n0 : Nat) : Int) := by omega
        clear hn0
        go_wp2_with (first
          | (refine ldrow arrSets _ rfl rfl _ rfl _ _ hs2 ?_)
          | (go_at_call 44; go_must (refine (HC0.out _ hb2).mono ?_); rintro e w2 ⟨rfl, hc⟩; obtain ⟨hb3, hs3⟩ := stepO hb2 (by have := heap_lt hs2; omega) hs2 hc; have hz3 := heap_alloc_new w2 (.cells (irow 4 (fun _ => 0)) 37); have hbz3 := hb3.alloc (by have := heap_lt hs3; omega) (.cells (irow 4 (fun _ => 0)) 37); have hs3z := (heap_alloc_old w2 (.cells (irow 4 (fun _ => 0)) 37) (heap_lt hs3)).trans hs3; have hl3 := heap_lt hs3; clear hc hs2 hb2 hb3 hs3)
          | (rw [zeros4]; refine strow arrMothers _ _ rfl rfl _ _ rfl rfl _ _ hz3 ?_; have hb4 := below_setRow hbz3 (show B ≤ w2.heap.size by omega) (irow 4 Fm); have hs4 := (setRow_other _ w2.heap.size (B + 1) (irow 4 Fm) (by omega)).trans hs3z; have hm4 := setRow_heap _ _ _ (irow 4 Fm) _ _ hz3; clear hz3 hbz3 hs3z; generalize World.setRow _ _ _ = w4 at hs4 hb4 hm4 ⊢))
        have hs7 := hs4
        have hb7 := hb4
        generalize hw7 : w4 = w7 at *
        clear hs4 hb4 hm4 hw7
        have hh7 : ∃ v, w7.heap[B + 1]? = some (.cells (irow 16 (cst (upN S q v))) 78 (0, 0)) := ⟨_, hs7⟩
        clear hs7
        go_wp2_with fail
        go_loopw [16, 17] (fun a i wr => ∃ k : Nat, k ≤ 4 ∧ i = .int .i64 ((4 * k : Nat) : Int) ∧ a = .int .i64 ((sumN C k : Nat) : Int) ∧ (∃ v, wr.heap[B + 1]? = some (.cells (irow 16 (cst (upN S q v))) 78 (0, 0))) ∧ Below B w wr) (fun _ i _ => 16 - (intOf i).toNat)
        case atStart => exact ⟨0, by omega, rfl, rfl, hh7, hb7⟩
        case round =>
          clear hh7 hb7
          obtain ⟨k, hk, rfl, rfl, ⟨v, hs⟩, hb⟩ := hrel
          by_cases hlt : k < 4
          · have HC := hid (fun W hb => HCk.out k hlt W hb)
            obtain ⟨Fk, hFk⟩ : ∃ Fk, fstN (upN S q (V k)) 65536 = Fk := ⟨_, rfl⟩
            rw [hFk] at HC
            have hv := HV.out k
            have hstep := HSum.out.2 (k + 1) (by omega)
            have hst : sumN C (k + 1) = sumN C k + C k := rfl
            have hmul : (15 : Int) * 2 ^ (4 * k) = ((V k : Nat) : Int) := by rw [hv]; push_cast; rfl
            have hVl : V k ≤ 15 * 4096 := by
              rw [hv]
              have : 2 ^ (4 * k) ≤ 2 ^ 12 := Nat.pow_le_pow_right (by omega) (by omega)
              omega
            have hcq := cell_irow hs q hq16
            have hfz := frozen_of_row _ _ q _ _ hs
            have hs2 := set_irow hs q ((V k : Nat) : Int)
            rw [upd_cst, upN_upN] at hs2
            have hb2 := hb.setCell (show B ≤ B + 1 by omega) (p := ⟨B + 1, q, none⟩) (.int .i64 ((V k : Nat) : Int))
            have hadd : IntKind.i64.wrap (((sumN C k : Nat) : Int) + ((C k : Nat) : Int)) = ((sumN C (k + 1) : Nat) : Int) := by
              rw [IntWalk.i64_in _ (by omega)]; omega
            have hnx : ((4 * k : Nat) : Int) + 4 = ((4 * (k + 1) : Nat) : Int) := by omega
            obtain ⟨r, hr⟩ : ∃ r : Nat, 4 * k = r := ⟨_, rfl⟩
            obtain ⟨r', hr'⟩ : ∃ r : Nat, 4 * (k + 1) = r := ⟨_, rfl⟩
            have hr16 : ((r : Nat) : Int) < 16 := by omega
            have hwr := wrap_natU r (by omega)
            have hwv := wrap_nat (V k) (by omega)
            have hwn := wrap_nat r' (by omega)
            have Hr' := hid hr'
            rw [hr] at hmul hnx ⊢
            rw [hr'] at hnx
            generalize hvk : V k = vk at *
            generalize C k = ck at *
            generalize sumN C k = x0 at *
            have Hx1 := hid (rfl : sumN C (k + 1) = sumN C (k + 1))
            generalize hx1 : sumN C (k + 1) = x1 at *
            have HX1 := hid hx1
            clear hFk hs hb hv hr hr' hst hstep hvk hx1 Hx1
            go_wp2_with (first
              | (refine ldrow arrSets _ rfl rfl _ rfl _ _ hs2 ?_)
              | (go_at_call 44; go_must (refine (HC.out _ hb2).mono ?_); rintro e w2 ⟨rfl, hc⟩; obtain ⟨hb3, hs3⟩ := stepO hb2 (by have := heap_lt hs2; omega) hs2 hc; have hz3 := heap_alloc_new w2 (.cells (irow 4 (fun _ => 0)) 37); have hbz3 := hb3.alloc (by have := heap_lt hs3; omega) (.cells (irow 4 (fun _ => 0)) 37); have hs3z := (heap_alloc_old w2 (.cells (irow 4 (fun _ => 0)) 37) (heap_lt hs3)).trans hs3; have hl3 := heap_lt hs3; clear hc hs2 hb2 hb3 hs3)
              | (rw [zeros4]; refine strow arrMothers _ _ rfl rfl _ _ rfl rfl _ _ hz3 ?_; have hb4 := below_setRow hbz3 (show B ≤ w2.heap.size by omega) (irow 4 Fk); have hs4 := (setRow_other _ w2.heap.size (B + 1) (irow 4 Fk) (by omega)).trans hs3z; have hm4 := setRow_heap _ _ _ (irow 4 Fk) _ _ hz3; clear hz3 hbz3 hs3z; generalize World.setRow _ _ _ = w4 at hs4 hb4 hm4 ⊢))
            go_roundw
            case rel => exact ⟨k + 1, by omega, by rw [Hr'.out], by rw [HX1.out], ⟨_, hs4⟩, hb4⟩
            case measure => simp [intOf]; omega
          · obtain rfl : k = 4 := by omega
            rw [HSum.out.1]
            have hge : ¬ ((4 * 4 : Nat) : Int) < 16 := by omega
            have hz8 := heap_alloc_new wr (.cells (irow 16 (fun _ => 0)) 78)
            have hbz8 := hb.alloc (by have := heap_lt hs; omega) (.cells (irow 16 (fun _ => 0)) 78)
            have hlz := heap_lt hs
            clear hs hb
            go_wp2_with (rw [zeros16]; refine strow arrSets _ _ rfl rfl _ (fun _ => 0) rfl rfl _ _ hz8 ?_; have hs9 := setRow_heap _ _ _ (irow 16 (fun _ => 0)) _ _ hz8; have hb9 := below_setRow hbz8 (show B ≤ wr.heap.size by omega) (irow 16 (fun _ => 0)); clear hz8 hbz8; generalize World.setRow _ _ _ = w9 at hs9 hb9 ⊢)
            rw [show irow 16 (fun _ => 0) = irow 16 (cst (setsTo (fun _ => 65535) 0)) from irow_congr fun j _ => by simp [setsTo]] at hs9
            generalize wr.heap.size = D at *
            go_loopw [22] (fun i wr => ∃ k : Nat, k ≤ 16 ∧ i = .int .i64 k ∧ wr.heap[D]? = some (.cells (irow 16 (cst (setsTo (fun _ => 65535) k))) 78 (0, 0)) ∧ Below B w wr) (fun i _ => 16 - (intOf i).toNat)
            case atStart => exact ⟨0, by omega, rfl, hs9, hb9⟩
            case round =>
              clear hs9 hb9
              obtain ⟨k, hk, rfl, hs, hb⟩ := hrel
              by_cases hlt : k < 16
              · have hlt' : ((k : Nat) : Int) < 16 := by omega
                have hcs := cell_irow hs k hlt
                have hfz := frozen_of_row _ _ k _ _ hs
                have Hs := hid hs
                have Hst := hid (sets_step (fun _ => 65535) k)
                have hDB : B ≤ D := by omega
                clear hs
                go_wp2_with fail
                go_roundw
                case rel => exact ⟨k + 1, by omega, by go_num, by rw [set_irow Hs.out]; exact congrArg some (congrArg (fun r => Obj.cells r _ _) Hst.out), hb.setCell hDB _⟩
                case measure => simp [intOf]; omega
              · have hge : ¬ ((k : Nat) : Int) < 16 := by omega
                obtain rfl : k = 16 := by omega
                rw [sets_all] at hs
                have hc14 := cell_irow hs 14 (by omega)
                have hfz := frozen_of_row _ _ 14 _ _ hs
                have hs2 := set_irow hs 14 ((xf : Nat) : Int)
                rw [upd_cst] at hs2
                have hb2 := hb.setCell (show B ≤ D by omega) (p := ⟨D, 14, none⟩) (.int .i64 ((xf : Nat) : Int))
                have hDl : D < wr.heap.size := heap_lt hs
                have hDB : B ≤ D := by omega
                clear hs hb
                rcases Hpar.out with ⟨hp1, rfl⟩ | ⟨hp1, rfl⟩
                · go_wp2_with (first
                    | (go_at_call 43; go_must (refine (HF.out _).mono ?_); rintro e w' ⟨rfl, rfl⟩)
                    | (refine ldrow arrSets _ rfl rfl _ rfl _ _ hs2 ?_)
                    | (go_at_call 44; go_must (refine (HCj.out _ hb2).mono ?_); rintro e w2 ⟨rfl, hc⟩; obtain ⟨hb3, hs3⟩ := stepO hb2 (by have := heap_lt hs2; omega) hs2 hc; have hz3 := heap_alloc_new w2 (.cells (irow 4 (fun _ => 0)) 37); have hbz3 := hb3.alloc (by have := heap_lt hs3; omega) (.cells (irow 4 (fun _ => 0)) 37); have hs3z := (heap_alloc_old w2 (.cells (irow 4 (fun _ => 0)) 37) (heap_lt hs3)).trans hs3; have hl3 := heap_lt hs3; clear hc hs2 hb2 hb3 hs3)
                    | (rw [zeros4]; refine strow arrMothers _ _ rfl rfl _ _ rfl rfl _ _ hz3 ?_; have hb4 := below_setRow hbz3 (show B ≤ w2.heap.size by omega) (irow 4 Fe); have hs4 := (setRow_other _ w2.heap.size (D) (irow 4 Fe) (by omega)).trans hs3z; have hm4 := setRow_heap _ _ _ (irow 4 Fe) _ _ hz3; clear hz3 hbz3 hs3z; generalize World.setRow _ _ _ = w4 at hs4 hb4 hm4 ⊢)
                    | (go_at_call 39; go_must (refine (HO.out _).mono ?_); rintro e w' ⟨rfl, rfl⟩)
                    | (go_at_call 19; go_must (refine (HL.out _ hb4).mono ?_); rintro e w6 ⟨rfl, hc6⟩; obtain ⟨hb6, hs6⟩ := stepO hb4 (by have := heap_lt hs4; omega) hs4 hc6))
                  go_ret
                  exact ⟨rfl, by rw [hB]; exact hb6⟩
                · go_wp2_with (first
                    | (go_at_call 43; go_must (refine (HF.out _).mono ?_); rintro e w' ⟨rfl, rfl⟩)
                    | (refine ldrow arrSets _ rfl rfl _ rfl _ _ hs2 ?_)
                    | (go_at_call 44; go_must (refine (HCj.out _ hb2).mono ?_); rintro e w2 ⟨rfl, hc⟩; obtain ⟨hb3, hs3⟩ := stepO hb2 (by have := heap_lt hs2; omega) hs2 hc; have hz3 := heap_alloc_new w2 (.cells (irow 4 (fun _ => 0)) 37); have hbz3 := hb3.alloc (by have := heap_lt hs3; omega) (.cells (irow 4 (fun _ => 0)) 37); have hs3z := (heap_alloc_old w2 (.cells (irow 4 (fun _ => 0)) 37) (heap_lt hs3)).trans hs3; have hl3 := heap_lt hs3; clear hc hs2 hb2 hb3 hs3)
                    | (rw [zeros4]; refine strow arrMothers _ _ rfl rfl _ _ rfl rfl _ _ hz3 ?_; have hb4 := below_setRow hbz3 (show B ≤ w2.heap.size by omega) (irow 4 Fe); have hs4 := (setRow_other _ w2.heap.size (D) (irow 4 Fe) (by omega)).trans hs3z; have hm4 := setRow_heap _ _ _ (irow 4 Fe) _ _ hz3; clear hz3 hbz3 hs3z; generalize World.setRow _ _ _ = w4 at hs4 hb4 hm4 ⊢)
                    | (go_at_call 39; go_must (refine (HO.out _).mono ?_); rintro e w' ⟨rfl, rfl⟩)
                    | (go_at_call 19; go_must (refine (HL.out _ hb4).mono ?_); rintro e w6 ⟨rfl, hc6⟩; obtain ⟨hb6, hs6⟩ := stepO hb4 (by have := heap_lt hs4; omega) hs4 hc6))
                  go_ret
                  exact ⟨rfl, by rw [hB]; exact hb6⟩
      · have hpos : (0 : Int) < ((n0 : Nat) : Int) := by omega
        rw [hMe] at HC0
        have HD1 := hid (fun W hb => HD.out M hM W hb)
        have hdl := hid (fun i hi => der_lt M hM i hi)
        have Hbit := hid hbit
        clear hn0 HD hMe hM hbit
        go_wp2_with (first
          | (refine ldrow arrSets _ rfl rfl _ rfl _ _ hs2 ?_)
          | (go_at_call 44; go_must (refine (HC0.out _ hb2).mono ?_); rintro e w2 ⟨rfl, hc⟩; obtain ⟨hb3, hs3⟩ := stepO hb2 (by have := heap_lt hs2; omega) hs2 hc; have hz3 := heap_alloc_new w2 (.cells (irow 4 (fun _ => 0)) 37); have hbz3 := hb3.alloc (by have := heap_lt hs3; omega) (.cells (irow 4 (fun _ => 0)) 37); have hs3z := (heap_alloc_old w2 (.cells (irow 4 (fun _ => 0)) 37) (heap_lt hs3)).trans hs3; have hl3 := heap_lt hs3; clear hc hs2 hb2 hb3 hs3)
          | (rw [zeros4]; refine strow arrMothers _ _ rfl rfl _ _ rfl rfl _ _ hz3 ?_; have hb4 := below_setRow hbz3 (show B ≤ w2.heap.size by omega) (irow 4 (cst M)); have hs4 := (setRow_other _ w2.heap.size (B + 1) (irow 4 (cst M)) (by omega)).trans hs3z; have hm4 := setRow_heap _ _ _ (irow 4 (cst M)) _ _ hz3; clear hz3 hbz3 hs3z; generalize World.setRow _ _ _ = w4 at hs4 hb4 hm4 ⊢)
          | (refine ldrow arrMothers _ rfl rfl _ rfl _ _ hm4 ?_)
          | (go_at_call 23; go_must (refine (HD1.out _ hb4).mono ?_); rintro e w5 ⟨rfl, hc5⟩; obtain ⟨hb5, hs5⟩ := stepO hb4 (by have := heap_lt hs4; omega) hs4 hc5; have hz5 := heap_alloc_new w5 (.cells (irow 16 (fun _ => 0)) 24); have hbz5 := hb5.alloc (by have := heap_lt hs5; omega) (.cells (irow 16 (fun _ => 0)) 24); have hs5z := (heap_alloc_old w5 (.cells (irow 16 (fun _ => 0)) 24) (heap_lt hs5)).trans hs5; have hl5 := heap_lt hs5; clear hs4 hb4 hm4 hc5 hs5 hb5)
          | (rw [zeros16]; refine strow arrShield _ _ rfl rfl _ _ rfl rfl _ _ hz5 ?_; have hb6 := below_setRow hbz5 (show B ≤ w5.heap.size by omega) (irow 16 (cst (der M))); have hs6 := (setRow_other _ w5.heap.size (B + 1) (irow 16 (cst (der M))) (by omega)).trans hs5z; have hg6 := setRow_heap _ _ _ (irow 16 (cst (der M))) _ _ hz5; clear hz5 hbz5 hs5z; generalize World.setRow _ _ _ = w6 at hs6 hb6 hg6 ⊢))
        generalize w5.heap.size = Bg at *
        go_loopw [15] (fun i wr => ∃ k nd : Nat, k ≤ 16 ∧ i = .int .i64 k ∧ wr = w6.drewN nd) (fun i _ => 16 - (intOf i).toNat)
        case atStart => exact ⟨0, 0, by omega, rfl, rfl⟩
        case round =>
          obtain ⟨k, nd, hk, rfl, rfl⟩ := hrel
          by_cases hlt : k < 16
          · have hlt' : ((k : Nat) : Int) < 16 := by omega
            have hcs : w6.cell? ⟨B + 1, k, none⟩ = some (.int .i64 ((upN S q 65535 k : Nat) : Int)) := cell_irow hs6 k hlt
            have hcg : w6.cell? ⟨Bg, k, none⟩ = some (.int .i64 ((der M k : Nat) : Int)) := cell_irow hg6 k hlt
            have hfl := hdl.out k hlt
            have hu : upN S q 65535 k < 65536 := by
              have := HS.out k hlt
              simp only [upN]; split <;> omega
            have hbit := bit_of (upN S q 65535 k) (der M k) hu
            rw [Hbit.out k hlt] at hbit
            have hbit' : (bits .and .i64 (((upN S q 65535 k : Nat) : Int) / 2 ^ der M k) 1 == 0) = false := hbit
            have huk := wrap_natU (der M k) (by omega)
            have hd0 : decide (((der M k : Nat) : Int) < 0) = false := by simp
            have hd1 : decide ((15 : Int) < ((der M k : Nat) : Int)) = false := by simp; omega
            clear hbit hs6 hg6
            generalize der M k = x at *
            generalize upN S q 65535 k = u at *
            go_wp2_with fail
            go_quiet (fail)
            go_wp2_with fail
            go_roundw
            case rel => exact ⟨k + 1, _, by omega, by go_num, rfl⟩
            case measure => simp [intOf]; omega
          · have hge : ¬ ((k : Nat) : Int) < 16 := by omega
            obtain rfl : k = 16 := by omega
            have hs7 : (w6.drewN nd).heap[B + 1]? = _ := hs6
            have hb7 := below_drewN hb6 nd
            generalize hw7 : w6.drewN nd = w7 at *
            clear hs6 hb6 hg6 hw7
            have hh7 : ∃ v, w7.heap[B + 1]? = some (.cells (irow 16 (cst (upN S q v))) 78 (0, 0)) := ⟨_, hs7⟩
            clear hs7
            go_wp2_with fail
            go_loopw [16, 17] (fun a i wr => ∃ k : Nat, k ≤ 4 ∧ i = .int .i64 ((4 * k : Nat) : Int) ∧ a = .int .i64 ((sumN C k : Nat) : Int) ∧ (∃ v, wr.heap[B + 1]? = some (.cells (irow 16 (cst (upN S q v))) 78 (0, 0))) ∧ Below B w wr) (fun _ i _ => 16 - (intOf i).toNat)
            case atStart => exact ⟨0, by omega, rfl, rfl, hh7, hb7⟩
            case round =>
              clear hh7 hb7
              obtain ⟨k, hk, rfl, rfl, ⟨v, hs⟩, hb⟩ := hrel
              by_cases hlt : k < 4
              · have HC := hid (fun W hb => HCk.out k hlt W hb)
                obtain ⟨Fk, hFk⟩ : ∃ Fk, fstN (upN S q (V k)) 65536 = Fk := ⟨_, rfl⟩
                rw [hFk] at HC
                have hv := HV.out k
                have hstep := HSum.out.2 (k + 1) (by omega)
                have hst : sumN C (k + 1) = sumN C k + C k := rfl
                have hmul : (15 : Int) * 2 ^ (4 * k) = ((V k : Nat) : Int) := by rw [hv]; push_cast; rfl
                have hVl : V k ≤ 15 * 4096 := by
                  rw [hv]
                  have : 2 ^ (4 * k) ≤ 2 ^ 12 := Nat.pow_le_pow_right (by omega) (by omega)
                  omega
                have hcq := cell_irow hs q hq16
                have hfz := frozen_of_row _ _ q _ _ hs
                have hs2 := set_irow hs q ((V k : Nat) : Int)
                rw [upd_cst, upN_upN] at hs2
                have hb2 := hb.setCell (show B ≤ B + 1 by omega) (p := ⟨B + 1, q, none⟩) (.int .i64 ((V k : Nat) : Int))
                have hadd : IntKind.i64.wrap (((sumN C k : Nat) : Int) + ((C k : Nat) : Int)) = ((sumN C (k + 1) : Nat) : Int) := by
                  rw [IntWalk.i64_in _ (by omega)]; omega
                have hnx : ((4 * k : Nat) : Int) + 4 = ((4 * (k + 1) : Nat) : Int) := by omega
                obtain ⟨r, hr⟩ : ∃ r : Nat, 4 * k = r := ⟨_, rfl⟩
                obtain ⟨r', hr'⟩ : ∃ r : Nat, 4 * (k + 1) = r := ⟨_, rfl⟩
                have hr16 : ((r : Nat) : Int) < 16 := by omega
                have hwr := wrap_natU r (by omega)
                have hwv := wrap_nat (V k) (by omega)
                have hwn := wrap_nat r' (by omega)
                have Hr' := hid hr'
                rw [hr] at hmul hnx ⊢
                rw [hr'] at hnx
                generalize hvk : V k = vk at *
                generalize C k = ck at *
                generalize sumN C k = x0 at *
                have Hx1 := hid (rfl : sumN C (k + 1) = sumN C (k + 1))
                generalize hx1 : sumN C (k + 1) = x1 at *
                have HX1 := hid hx1
                clear hFk hs hb hv hr hr' hst hstep hvk hx1 Hx1
                go_wp2_with (first
                  | (refine ldrow arrSets _ rfl rfl _ rfl _ _ hs2 ?_)
                  | (go_at_call 44; go_must (refine (HC.out _ hb2).mono ?_); rintro e w2 ⟨rfl, hc⟩; obtain ⟨hb3, hs3⟩ := stepO hb2 (by have := heap_lt hs2; omega) hs2 hc; have hz3 := heap_alloc_new w2 (.cells (irow 4 (fun _ => 0)) 37); have hbz3 := hb3.alloc (by have := heap_lt hs3; omega) (.cells (irow 4 (fun _ => 0)) 37); have hs3z := (heap_alloc_old w2 (.cells (irow 4 (fun _ => 0)) 37) (heap_lt hs3)).trans hs3; have hl3 := heap_lt hs3; clear hc hs2 hb2 hb3 hs3)
                  | (rw [zeros4]; refine strow arrMothers _ _ rfl rfl _ _ rfl rfl _ _ hz3 ?_; have hb4 := below_setRow hbz3 (show B ≤ w2.heap.size by omega) (irow 4 Fk); have hs4 := (setRow_other _ w2.heap.size (B + 1) (irow 4 Fk) (by omega)).trans hs3z; have hm4 := setRow_heap _ _ _ (irow 4 Fk) _ _ hz3; clear hz3 hbz3 hs3z; generalize World.setRow _ _ _ = w4 at hs4 hb4 hm4 ⊢))
                go_roundw
                case rel => exact ⟨k + 1, by omega, by rw [Hr'.out], by rw [HX1.out], ⟨_, hs4⟩, hb4⟩
                case measure => simp [intOf]; omega
              · obtain rfl : k = 4 := by omega
                rw [HSum.out.1]
                have hge : ¬ ((4 * 4 : Nat) : Int) < 16 := by omega
                have hz8 := heap_alloc_new wr (.cells (irow 16 (fun _ => 0)) 78)
                have hbz8 := hb.alloc (by have := heap_lt hs; omega) (.cells (irow 16 (fun _ => 0)) 78)
                have hlz := heap_lt hs
                clear hs hb
                go_wp2_with (rw [zeros16]; refine strow arrSets _ _ rfl rfl _ (fun _ => 0) rfl rfl _ _ hz8 ?_; have hs9 := setRow_heap _ _ _ (irow 16 (fun _ => 0)) _ _ hz8; have hb9 := below_setRow hbz8 (show B ≤ wr.heap.size by omega) (irow 16 (fun _ => 0)); clear hz8 hbz8; generalize World.setRow _ _ _ = w9 at hs9 hb9 ⊢)
                rw [show irow 16 (fun _ => 0) = irow 16 (cst (setsTo (fun _ => 65535) 0)) from irow_congr fun j _ => by simp [setsTo]] at hs9
                generalize wr.heap.size = D at *
                go_loopw [22] (fun i wr => ∃ k : Nat, k ≤ 16 ∧ i = .int .i64 k ∧ wr.heap[D]? = some (.cells (irow 16 (cst (setsTo (fun _ => 65535) k))) 78 (0, 0)) ∧ Below B w wr) (fun i _ => 16 - (intOf i).toNat)
                case atStart => exact ⟨0, by omega, rfl, hs9, hb9⟩
                case round =>
                  clear hs9 hb9
                  obtain ⟨k, hk, rfl, hs, hb⟩ := hrel
                  by_cases hlt : k < 16
                  · have hlt' : ((k : Nat) : Int) < 16 := by omega
                    have hcs := cell_irow hs k hlt
                    have hfz := frozen_of_row _ _ k _ _ hs
                    have Hs := hid hs
                    have Hst := hid (sets_step (fun _ => 65535) k)
                    have hDB : B ≤ D := by omega
                    clear hs
                    go_wp2_with fail
                    go_roundw
                    case rel => exact ⟨k + 1, by omega, by go_num, by rw [set_irow Hs.out]; exact congrArg some (congrArg (fun r => Obj.cells r _ _) Hst.out), hb.setCell hDB _⟩
                    case measure => simp [intOf]; omega
                  · have hge : ¬ ((k : Nat) : Int) < 16 := by omega
                    obtain rfl : k = 16 := by omega
                    rw [sets_all] at hs
                    have hc14 := cell_irow hs 14 (by omega)
                    have hfz := frozen_of_row _ _ 14 _ _ hs
                    have hs2 := set_irow hs 14 ((xf : Nat) : Int)
                    rw [upd_cst] at hs2
                    have hb2 := hb.setCell (show B ≤ D by omega) (p := ⟨D, 14, none⟩) (.int .i64 ((xf : Nat) : Int))
                    have hDl : D < wr.heap.size := heap_lt hs
                    have hDB : B ≤ D := by omega
                    clear hs hb
                    rcases Hpar.out with ⟨hp1, rfl⟩ | ⟨hp1, rfl⟩
                    · go_wp2_with (first
                        | (go_at_call 43; go_must (refine (HF.out _).mono ?_); rintro e w' ⟨rfl, rfl⟩)
                        | (refine ldrow arrSets _ rfl rfl _ rfl _ _ hs2 ?_)
                        | (go_at_call 44; go_must (refine (HCj.out _ hb2).mono ?_); rintro e w2 ⟨rfl, hc⟩; obtain ⟨hb3, hs3⟩ := stepO hb2 (by have := heap_lt hs2; omega) hs2 hc; have hz3 := heap_alloc_new w2 (.cells (irow 4 (fun _ => 0)) 37); have hbz3 := hb3.alloc (by have := heap_lt hs3; omega) (.cells (irow 4 (fun _ => 0)) 37); have hs3z := (heap_alloc_old w2 (.cells (irow 4 (fun _ => 0)) 37) (heap_lt hs3)).trans hs3; have hl3 := heap_lt hs3; clear hc hs2 hb2 hb3 hs3)
                        | (rw [zeros4]; refine strow arrMothers _ _ rfl rfl _ _ rfl rfl _ _ hz3 ?_; have hb4 := below_setRow hbz3 (show B ≤ w2.heap.size by omega) (irow 4 Fe); have hs4 := (setRow_other _ w2.heap.size (D) (irow 4 Fe) (by omega)).trans hs3z; have hm4 := setRow_heap _ _ _ (irow 4 Fe) _ _ hz3; clear hz3 hbz3 hs3z; generalize World.setRow _ _ _ = w4 at hs4 hb4 hm4 ⊢)
                        | (go_at_call 39; go_must (refine (HO.out _).mono ?_); rintro e w' ⟨rfl, rfl⟩)
                        | (go_at_call 19; go_must (refine (HL.out _ hb4).mono ?_); rintro e w6 ⟨rfl, hc6⟩; obtain ⟨hb6, hs6⟩ := stepO hb4 (by have := heap_lt hs4; omega) hs4 hc6))
                      go_ret
                      exact ⟨rfl, by rw [hB]; exact hb6⟩
                    · go_wp2_with (first
                        | (go_at_call 43; go_must (refine (HF.out _).mono ?_); rintro e w' ⟨rfl, rfl⟩)
                        | (refine ldrow arrSets _ rfl rfl _ rfl _ _ hs2 ?_)
                        | (go_at_call 44; go_must (refine (HCj.out _ hb2).mono ?_); rintro e w2 ⟨rfl, hc⟩; obtain ⟨hb3, hs3⟩ := stepO hb2 (by have := heap_lt hs2; omega) hs2 hc; have hz3 := heap_alloc_new w2 (.cells (irow 4 (fun _ => 0)) 37); have hbz3 := hb3.alloc (by have := heap_lt hs3; omega) (.cells (irow 4 (fun _ => 0)) 37); have hs3z := (heap_alloc_old w2 (.cells (irow 4 (fun _ => 0)) 37) (heap_lt hs3)).trans hs3; have hl3 := heap_lt hs3; clear hc hs2 hb2 hb3 hs3)
                        | (rw [zeros4]; refine strow arrMothers _ _ rfl rfl _ _ rfl rfl _ _ hz3 ?_; have hb4 := below_setRow hbz3 (show B ≤ w2.heap.size by omega) (irow 4 Fe); have hs4 := (setRow_other _ w2.heap.size (D) (irow 4 Fe) (by omega)).trans hs3z; have hm4 := setRow_heap _ _ _ (irow 4 Fe) _ _ hz3; clear hz3 hbz3 hs3z; generalize World.setRow _ _ _ = w4 at hs4 hb4 hm4 ⊢)
                        | (go_at_call 39; go_must (refine (HO.out _).mono ?_); rintro e w' ⟨rfl, rfl⟩)
                        | (go_at_call 19; go_must (refine (HL.out _ hb4).mono ?_); rintro e w6 ⟨rfl, hc6⟩; obtain ⟨hb6, hs6⟩ := stepO hb4 (by have := heap_lt hs4; omega) hs4 hc6))
                      go_ret
                      exact ⟨rfl, by rw [hB]; exact hb6⟩

theorem lawShares (p j : Nat) (S : Nat → Nat) (_ : p < 256) (hj : j < 256) (hS : ∀ i, i < 16 → S i < 65536) (w : World) (L : Base2 w) :
    Calls Tryd.prog 12 #[.int .u8 (p : Nat), .int .u8 (j : Nat), .agg (hrow 16 S)] w fun e w' => e = .returned (.bool true) ∧ Below w.heap.size w w' := by
  obtain ⟨CC, hCC⟩ : ∃ CC : Nat → Nat, ∀ v, cntN (upN S (p % 16) v) 65536 = CC v := ⟨_, fun _ => rfl⟩
  have hpart := parts S (p % 16) (by omega)
  rw [hCC, hCC, hCC, hCC, hCC] at hpart
  have h4 : ∀ k, k < 4 → k = 0 ∨ k = 1 ∨ k = 2 ∨ k = 3 := fun k hk => by omega
  have hs : ∀ C : Nat → Nat, sumN C 0 = 0 ∧ sumN C 1 = C 0 ∧ sumN C 2 = C 0 + C 1 ∧ sumN C 3 = C 0 + C 1 + C 2 ∧ sumN C 4 = C 0 + C 1 + C 2 + C 3 := fun C => by
    refine ⟨rfl, ?_, ?_, ?_, ?_⟩ <;> simp [sumN]
  obtain ⟨s0, s1, s2, s3, s4⟩ := hs (fun k => CC (15 * 2 ^ (4 * k)))
  have e0 : CC (15 * 2 ^ (4 * 0)) = CC 15 := rfl
  have e1 : CC (15 * 2 ^ (4 * 1)) = CC 240 := rfl
  have e2 : CC (15 * 2 ^ (4 * 2)) = CC 3840 := rfl
  have e3 : CC (15 * 2 ^ (4 * 3)) = CC 61440 := rfl
  refine lawShares_main p j hj S hS (p % 16) (j % 16) rfl rfl (CC 65535) _ (hCC 65535) rfl ((hCC 65535) ▸ cntN_max _ _) (fun k => CC (15 * 2 ^ (4 * k))) (fun k => 15 * 2 ^ (4 * k)) (fun _ => rfl) (fun k hk => ?_) (fun k _ => hCC _) ?_ (fun k hk => ?_) _ _ (judge_each (j % 16) (by omega)) rfl rfl ?_ w L
  · rcases h4 k hk with rfl | rfl | rfl | rfl <;> decide
  · rw [s4, hpart, e0, e1, e2, e3]
  · have : k = 0 ∨ k = 1 ∨ k = 2 ∨ k = 3 ∨ k = 4 := by omega
    rw [e0] at s1 s2 s3 s4
    rw [e1] at s2 s3 s4
    rw [e2] at s3 s4
    rw [e3] at s4
    rcases this with rfl | rfl | rfl | rfl | rfl
    · rw [s0]; omega
    · rw [s1]; omega
    · rw [s2]; omega
    · rw [s3]; omega
    · rw [s4]; omega
  · by_cases h : CC 65535 = 0
    · exact Or.inl h
    · obtain ⟨m, hm, ho, hf⟩ := first_is (upN S (p % 16) 65535) (by rw [hCC]; exact h)
      exact Or.inr ⟨h, mths m, fun i _ => mths_lt m i, hf, (okB_iff _ _).1 ho⟩
end Go.Proofs.YtphnibllfpkkkaaDoor
