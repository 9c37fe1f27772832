/- Walk of the reference: Derive2. -/
import Derived.Test.YtphnibllfpkkkaaDoorR8
import Derived.Test.YtphnibllfpkkkaaDoorR2
import Derived.Test.YtphnibllfpkkkaaDoorW10
namespace Go.Proofs.YtphnibllfpkkkaaDoor
open Go Go.RowKit
set_option maxRecDepth 100000

theorem d2_start (M : Nat → Nat) : (#[.int .i64 ((M 0 : Nat) : Int), .int .i64 ((M 1 : Nat) : Int), .int .i64 ((M 2 : Nat) : Int), .int .i64 ((M 3 : Nat) : Int), .int .i64 0, .int .i64 0, .int .i64 0, .int .i64 0, .int .i64 0, .int .i64 0, .int .i64 0, .int .i64 0, .int .i64 0, .int .i64 0, .int .i64 0, .int .i64 0] : Array Value) = irow 16 (cst (d2 M 0 0)) := by
  rw [build4]
  apply irow_congr
  intro p hp
  simp only [cst, d2, overN]
  congr 1
  by_cases h1 : p < 4
  · rw [if_pos h1, if_pos h1]
  · rw [if_neg h1, if_neg h1, if_neg (by omega)]
    by_cases h : p = 4 + 0
    · rw [if_pos h]; rfl
    · rw [if_neg h]

set_option maxHeartbeats 2000000 in
theorem rDerive2 (M : Nat → Nat) (hM : ∀ i, i < 4 → M i < 16) (w : World) :
    Calls Tryd.prog 71 #[.agg (irow 4 (cst M))] w fun e w' => e = .returned (.agg (irow 16 (cst (der M)))) ∧ Below w.heap.size w w' := by
  have HM := hid hM
  have HU := hid (up_lt M hM)
  clear hM
  have hm := heap_alloc_old ((w.alloc (.cells (irow 4 (cst M)) 37)).alloc (.cells (irow 16 (fun _ => 0)) 24)) (.cells (irow 16 (cst (d2 M 0 0))) 24) (r := w.heap.size) (by simp; omega)
  rw [heap_alloc2_old] at hm
  have hz := heap_alloc_old ((w.alloc (.cells (irow 4 (cst M)) 37)).alloc (.cells (irow 16 (fun _ => 0)) 24)) (.cells (irow 16 (cst (d2 M 0 0))) 24) (r := w.heap.size + 1) (by simp)
  rw [heap_alloc2_new] at hz
  have hg := heap_alloc_new ((w.alloc (.cells (irow 4 (cst M)) 37)).alloc (.cells (irow 16 (fun _ => 0)) 24)) (.cells (irow 16 (cst (d2 M 0 0))) 24)
  have hs : ((w.alloc (.cells (irow 4 (cst M)) 37)).alloc (.cells (irow 16 (fun _ => 0)) 24)).heap.size = w.heap.size + 1 + 1 := by simp
  rw [hs] at hg
  have hb0 : Below w.heap.size w (((w.alloc (.cells (irow 4 (cst M)) 37)).alloc (.cells (irow 16 (fun _ => 0)) 24)).alloc (.cells (irow 16 (cst (d2 M 0 0))) 24)) := (((Below.refl _ _).alloc (Nat.le_refl _) _).alloc (by simp) _).alloc (by simp; omega) _
  clear hs
  go_enter Tryd.func71, Tryd.ntmps71
  go_wp2_with fail
  rw [zeros16, d2_start]
  generalize ((w.alloc (.cells (irow 4 (cst M)) 37)).alloc (.cells (irow 16 (fun _ => 0)) 24)).alloc (.cells (irow 16 (cst (d2 M 0 0))) 24) = w1 at hm hz hg hb0 ⊢
  generalize hB : w.heap.size = B at *
  go_loopw [4] (fun i wr => ∃ j : Nat, j ≤ 4 ∧ i = .int .i64 j ∧ wr.heap[B]? = some (.cells (irow 4 (cst M)) 37 (0, 0)) ∧ wr.heap[B + 1]? = some (.cells (irow 16 (fun _ => 0)) 24 (0, 0)) ∧ wr.heap[B + 1 + 1]? = some (.cells (irow 16 (cst (d2 M j 0))) 24 (0, 0)) ∧ Below B w wr) (fun i _ => 4 - (intOf i).toNat)
  case atStart => exact ⟨0, by omega, rfl, hm, hz, hg, hb0⟩
  case round =>
    clear hm hz hg hb0
    obtain ⟨j, hj, rfl, hm, hz, hg, hb⟩ := hrel
    by_cases hlt : j < 4
    · have hlt' : (j : Int) < 4 := by omega
      go_wp2_with fail
      obtain ⟨wo, hwo⟩ : ∃ wo : World, wo = wr := ⟨_, rfl⟩
      clear hwo
      go_loopw [5] (fun i wi => ∃ k : Nat, k ≤ 4 ∧ i = .int .i64 k ∧ wi.heap[B]? = some (.cells (irow 4 (cst M)) 37 (0, 0)) ∧ wi.heap[B + 1]? = some (.cells (irow 16 (fun _ => 0)) 24 (0, 0)) ∧ wi.heap[B + 1 + 1]? = some (.cells (irow 16 (cst (d2 M j k))) 24 (0, 0)) ∧ Below B w wi) (fun i _ => 4 - (intOf i).toNat)
      case atStart => exact ⟨0, by omega, rfl, hm, hz, hg, hb⟩
      case round =>
        clear hm hz hg hb
        obtain ⟨k, hk, rfl, hm, hz, hg, hb⟩ := hrel
        by_cases hltk : k < 4
        · have hltk' : (k : Int) < 4 := by omega
          obtain ⟨p, hp⟩ : ∃ p : Nat, 4 + j = p := ⟨_, rfl⟩
          have hp' : 4 + ((j : Nat) : Int) = (p : Nat) := by omega
          have hp16 : p < 16 := by omega
          have hp16' : ((p : Nat) : Int) < 16 := by omega
          have hwp := wrap_nat p (by omega)
          have hst := d2_step M j k
          rw [hp] at hst
          have Hst := hid hst
          have hMk := HM.out k hltk
          have hcm := cell_irow hm k hltk
          have hdv : d2 M j k p = dg M j k := by
            rw [← hp]; unfold d2; rw [if_neg (by omega), if_neg (by omega), if_pos rfl]
          have hcg : wr.cell? ⟨B + 1 + 1, p, none⟩ = some (.int .i64 ((dg M j k : Nat) : Int)) := by
            rw [cell_irow hg p hp16]; simp only [cst]; rw [hdv]
          have hfz := frozen_of_row _ _ p _ _ hg
          have hadd := dg_add M j k hltk
          have hdl := dg_lt M j (k + 1)
          have hdl2 : dg M j (k + 1) < 16 := Nat.lt_of_lt_of_le hdl (Nat.pow_le_pow_right (n := 2) (by omega) (show k + 1 ≤ 4 by omega))
          obtain ⟨b, hbb⟩ : ∃ b : Nat, M k / 2 ^ j % 2 = b := ⟨_, rfl⟩
          have hand : bits .and .i64 (((M k : Nat) : Int) / 2 ^ j) 1 = ((b : Nat) : Int) := by
            rw [show ((M k : Nat) : Int) / 2 ^ j = ((M k / 2 ^ j : Nat) : Int) by push_cast; rfl, i64_and1 _ (by have := Nat.div_le_self (M k) (2 ^ j); omega), hbb]
          rw [hbb] at hadd
          obtain ⟨s, hs⟩ : ∃ s : Nat, b * 2 ^ k = s := ⟨_, rfl⟩
          have hsh : ((b : Nat) : Int) * 2 ^ k = (s : Nat) := by rw [← hs]; push_cast; rfl
          rw [hs] at hadd
          have hws := wrap_nat s (by omega)
          have hws' := IntWalk.wrap64_in ((s : Nat) : Int) (by omega)
          have hsum : ((dg M j k : Nat) : Int) + (s : Nat) = ((dg M j (k + 1) : Nat) : Int) := by omega
          have hwd := wrap_nat (dg M j (k + 1)) (by omega)
          have huj := wrap_natU j (by omega)
          have huk := wrap_natU k (by omega)
          generalize dg M j (k + 1) = y1 at *
          generalize dg M j k = y0 at *
          have Hm := hid hm
          have Hz := hid hz
          have Hg := hid hg
          clear hm hz hg hadd hdl hdl2 hbb hs hst hdv hp
          go_wp2_with fail
          go_still_tail 16, (by kernel_rfl)
          change wpList _ _ _ _ _ wr.drew
          go_wp2_with fail
          go_roundw
          case rel => exact ⟨k + 1, by omega, by go_num, (heap_setCell_other wr.drew ⟨B + 1 + 1, p, none⟩ B _ (by show B ≠ B + 1 + 1; omega)).trans Hm.out, (heap_setCell_other wr.drew ⟨B + 1 + 1, p, none⟩ (B + 1) _ (by show B + 1 ≠ B + 1 + 1; omega)).trans Hz.out, by rw [← Hst.out]; exact set_irow (w := wr.drew) Hg.out p _, (below_drewN hb 1).setCell (show B ≤ B + 1 + 1 by omega) _⟩
          case measure => simp [intOf]; omega
        · have hge : ¬ (k : Int) < 4 := by omega
          obtain rfl : k = 4 := by omega
          go_wp2_with fail
          go_roundw
          case rel => exact ⟨j + 1, by omega, by go_num, hm, hz, by rw [hg, d2_next], hb⟩
          case measure => simp [intOf]; omega
    · have hge : ¬ (j : Int) < 4 := by omega
      obtain rfl : j = 4 := by omega
      rw [d2_up] at hg
      go_wp2_with fail
      go_loopw [6] (fun i wi => ∃ n : Nat, 4 ≤ n ∧ n ≤ 12 ∧ i = .int .i64 ((n + 4 : Nat) : Int) ∧ wi.heap[B + 1]? = some (.cells (irow 16 (fun _ => 0)) 24 (0, 0)) ∧ wi.heap[B + 1 + 1]? = some (.cells (irow 16 (cst (up M n))) 24 (0, 0)) ∧ Below B w wi) (fun i _ => 16 - (intOf i).toNat)
      case atStart => exact ⟨4, by omega, by omega, rfl, hz, hg, hb⟩
      case round =>
        clear hm hz hg hb
        obtain ⟨n, hn4, hn, rfl, hz, hg, hb⟩ := hrel
        by_cases hltn : n < 12
        · have hpl := pa_lt (n + 4)
          have hpr := pb_lt (n + 4)
          have hpar := hid (rParents (n + 4) (by omega) (by omega))
          have hup := hid (show up M (n + 1) = upN (up M n) (n + 4) (up M n (pa (n + 4)) ^^^ up M n (pb (n + 4))) by
            rw [up]; unfold fol; rw [if_pos (by omega)])
          obtain ⟨p, hp⟩ : ∃ p : Nat, n + 4 = p := ⟨_, rfl⟩
          rw [hp] at hpl hpr hpar hup
          have hp' : ((n + 4 : Nat) : Int) = (p : Nat) := by omega
          have hp16 : p < 16 := by omega
          have hp16' : ((p : Nat) : Int) < 16 := by omega
          have hca : wr.cell? ⟨B + 1 + 1, pa p, none⟩ = some (.int .i64 ((up M n (pa p) : Nat) : Int)) := cell_irow hg _ hpl
          have hcb : wr.cell? ⟨B + 1 + 1, pb p, none⟩ = some (.int .i64 ((up M n (pb p) : Nat) : Int)) := cell_irow hg _ hpr
          have hcc := cell_irow hg p hp16
          have hfz := frozen_of_row _ _ p _ _ hg
          have hxa := HU.out n (pa p) hpl
          have hxb := HU.out n (pb p) hpr
          have hx := i64_xor (up M n (pa p)) (up M n (pb p)) (by omega) (by omega)
          have hla' : ((pa p : Nat) : Int) < 16 := by omega
          have hlb' : ((pb p : Nat) : Int) < 16 := by omega
          have hpn : ((p : Nat) : Int) + 1 = ((n + 1 + 4 : Nat) : Int) := by omega
          have hmeas : 16 - (n + 1 + 4) < 16 - p := by omega
          have Hpn := hid hpn
          have Hmeas := hid hmeas
          have Hz := hid hz
          have Hg := hid hg
          have Hp := hid hp
          generalize up M n (pa p) ^^^ up M n (pb p) = y at *
          generalize up M n (pa p) = ya at *
          generalize up M n (pb p) = yb at *
          generalize pa p = la at *
          generalize pb p = lb at *
          clear hz hg hp hpn hmeas hxa hxb
          rw [hp']
          go_wp2_with (go_at_call 54; refine (hpar.out _).mono ?_; rintro e w' ⟨rfl, rfl⟩)
          go_still_tail 9, (by kernel_rfl)
          change wpList _ _ _ _ _ wr.drew
          go_wp2_with fail
          go_roundw
          case rel => exact ⟨n + 1, by omega, by omega, by rw [← Hpn.out], (heap_setCell_other wr.drew ⟨B + 1 + 1, p, none⟩ (B + 1) _ (by show B + 1 ≠ B + 1 + 1; omega)).trans Hz.out, by rw [hup.out, ← upd_cst]; exact set_irow (w := wr.drew) Hg.out p _, (below_drewN hb 1).setCell (show B ≤ B + 1 + 1 by omega) _⟩
          case measure => simp [intOf]; omega
        · have hge : ¬ ((n + 4 : Nat) : Int) < 16 := by omega
          obtain rfl : n = 12 := by omega
          go_wp2_with (first | (refine ldrow arrShield _ rfl rfl _ rfl _ _ hg ?_) | (refine strow arrShield _ _ rfl rfl _ _ rfl rfl _ _ hz ?_))
          exact retrow arrShield Tryd.results71 (B + 1) _ _ rfl (setRow_heap _ _ _ _ _ _ hz) rfl ⟨rfl, below_setRow hb (by omega) _⟩
end Go.Proofs.YtphnibllfpkkkaaDoor
