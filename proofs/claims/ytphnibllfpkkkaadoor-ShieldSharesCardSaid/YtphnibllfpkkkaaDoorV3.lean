/- The law ShieldDerives: the walk. -/
import Derived.Test.YtphnibllfpkkkaaDoorV2
namespace Go.Proofs.YtphnibllfpkkkaaDoor
open Go Go.RowKit
set_option maxRecDepth 100000

/-- A block of the law's own after a call. -/
theorem stepO {B g : Nat} {w W W' : World} {o : Obj} (hb : Below B w W) (hB : B ≤ W.heap.size) (hg : W.heap[g]? = some o) (h : Below W.heap.size W W') :
    Below B w W' ∧ W'.heap[g]? = some o := ⟨hb.trans (h.mono hB), heap_below h hg (heap_lt hg)⟩
theorem eqlZero (b : Bool) (S : Nat → Int) (hb : b = true ↔ ∀ i, i < 16 → S i = 0) (w : World) : (binOp .eql 24 (.agg (irow 16 S)) (.agg #[.int .i64 0, .int .i64 0, .int .i64 0, .int .i64 0, .int .i64 0, .int .i64 0, .int .i64 0, .int .i64 0, .int .i64 0, .int .i64 0, .int .i64 0, .int .i64 0, .int .i64 0, .int .i64 0, .int .i64 0, .int .i64 0])).run Tryd.prog w = .ok (.bool b) w := by
  rw [zeros16]
  exact eqlShield S (fun _ => 0) b hb w

set_option maxHeartbeats 600000 in
theorem lawDerives_no (S : Nat → Int) (hS : ¬ ∀ i, i < 4 → Fig (S i)) (w : World) (L : Base w) :
    Calls Tryd.prog 4 #[.agg (irow 4 S)] w fun e w' => e = .returned (.bool true) ∧ Below w.heap.size w w' := by
  have h0 := heap_alloc_new w (.cells (irow 4 S) 37)
  have hb0 : Below w.heap.size w (w.alloc (.cells (irow 4 S) 37)) := (Below.refl _ _).alloc (Nat.le_refl _) _
  have HN := hid (fun W => Number_no S hS W)
  have HD := hid (fun W => Derive_no S hS W)
  have HL := hid (fun W (hb : Below w.heap.size w W) => known_b W (L.below hb))
  have heq := eqlZero true (fun _ => 0) (by simp)
  have hex : ∃ j, j < 4 ∧ ¬ Fig (S j) := by
    apply Classical.byContradiction
    intro h
    exact hS fun i hi => Classical.byContradiction fun hb => h ⟨i, hi, hb⟩
  obtain ⟨j, ⟨hj, hbad⟩, hl⟩ := exists_least hex
  have HV := hid (show ∀ i, i < j → Fig (S i) from fun i hi => Classical.byContradiction fun hb => absurd (hl i ⟨by omega, hb⟩) (by omega))
  have HB := hid hbad
  clear hS L hex hl hbad
  go_enter Tryd.func4, Tryd.ntmps4
  go_wp2_with (first
    | (refine ldrow arrMothers _ rfl rfl _ rfl _ _ h0 ?_) | (refine ldrow arrMothers _ rfl rfl _ rfl _ _ h1 ?_)
    | (go_at_call 22; go_must (refine (HN.out _).mono ?_); rintro e w1 ⟨rfl, hc⟩; obtain ⟨hb1, h1⟩ := stepO hb0 hb0.size h0 hc)
    | (go_at_call 23; go_must (refine (HD.out _).mono ?_); rintro e w2 ⟨rfl, hc⟩; obtain ⟨hb2, h2⟩ := stepO hb1 hb1.size h1 hc; have hz := heap_alloc_new w2 (.cells (irow 16 (fun _ => 0)) 24); have hbz : Below w2.heap.size w2 (w2.alloc (.cells (irow 16 (fun _ => 0)) 24)) := (Below.refl _ _).alloc (Nat.le_refl _) _)
    | (rw [zeros16]; go_must (refine strow arrShield _ _ rfl rfl _ (fun _ => 0) rfl rfl _ _ hz ?_); have hbs := below_setRow hbz (Nat.le_refl _) (irow 16 (fun _ => 0)); have hgs := setRow_heap _ _ _ (irow 16 (fun _ => 0)) _ _ hz; obtain ⟨hb3, h3⟩ := stepO hb2 hb2.size h2 hbs; clear hz hbz hbs; generalize World.setRow _ _ _ = ws at hgs hb3 h3 ⊢))
  clear h0 h1 h2 hb0 hb1 hb2
  go_loop [7] (fun i => ∃ n : Nat, n ≤ j ∧ i = .int .i64 n) (fun i => 4 - (intOf i).toNat)
  case atStart => exact ⟨0, by omega, rfl⟩
  case round =>
    obtain ⟨n, hn, rfl⟩ := hrel
    have hlt' : (n : Int) < 4 := by omega
    have hc := cell_irow h3 n (by omega)
    by_cases hlt : n < j
    · obtain ⟨f0, f1⟩ := HV.out n hlt
      have hcall := hid (fun W => rFigure_yes (S n) f0 f1 W)
      go_wp2_with (go_at_call 24; refine (hcall.out _).mono ?_; rintro e w' ⟨rfl, rfl⟩)
      go_round
      case rel => exact ⟨n + 1, by omega, by go_num⟩
      case measure => simp [intOf]; omega
    · obtain rfl : n = j := by omega
      have hcall := hid (fun W => rFigure_no (S n) HB.out W)
      go_wp2_with (first
        | (refine ldrowG arrShield _ rfl rfl _ rfl _ _ hgs ?_)
        | (go_at_call 24; refine (hcall.out _).mono ?_; rintro e w' ⟨rfl, rfl⟩)
        | (go_at_call 19; go_must (refine (HL.out _ hb3).mono ?_); rintro e w4 ⟨rfl, hc4⟩; obtain ⟨hb4, h4⟩ := stepO hb3 hb3.size h3 hc4))
      go_ret
      exact ⟨rfl, hb4⟩

set_option maxHeartbeats 1000000 in
theorem lawDerives_yes (M : Nat → Nat) (hM : ∀ i, i < 4 → M i < 16) (w : World) (L : Base w) :
    Calls Tryd.prog 4 #[.agg (irow 4 (cst M))] w fun e w' => e = .returned (.bool true) ∧ Below w.heap.size w w' := by
  have h0 := heap_alloc_new w (.cells (irow 4 (cst M)) 37)
  have hb0 : Below w.heap.size w (w.alloc (.cells (irow 4 (cst M)) 37)) := (Below.refl _ _).alloc (Nat.le_refl _) _
  have HN := hid (fun W => Number_yes M hM W)
  have HD := hid (fun W (hb : Below w.heap.size w W) => Derive_yes M hM W (L.below hb))
  have HR := hid (fun W => rDerive M hM W)
  have hnum : num M 4 < 65536 := num_lt M hM 4 (by omega)
  have HM := hid (fun W => rMothers (num M 4) hnum W)
  have HL := hid (fun W (hb : Below w.heap.size w W) => known_b W (L.below hb))
  have hq1 := eqlMothers (cst (mths (num M 4))) (cst M) true (by simp only [cst]; exact ⟨fun _ i hi => by rw [mths_num M hM i hi], fun _ => trivial⟩)
  have hq2 := eqlShield (cst (der M)) (cst (der M)) true (by simp)
  have HV := hid hM
  have g0 : (0 : Int) ≤ (num M 4 : Nat) := by omega
  have g1 : ((num M 4 : Nat) : Int) ≤ 65535 := by omega
  clear hM L hnum
  generalize num M 4 = N at *
  go_enter Tryd.func4, Tryd.ntmps4
  go_wp2_with (first
    | (refine ldrow arrMothers _ rfl rfl _ rfl _ _ h0 ?_) | (refine ldrow arrMothers _ rfl rfl _ rfl _ _ h1 ?_)
    | (go_at_call 22; go_must (refine (HN.out _).mono ?_); rintro e w1 ⟨rfl, hc⟩; obtain ⟨hb1, h1⟩ := stepO hb0 hb0.size h0 hc)
    | (go_at_call 23; go_must (refine (HD.out _ hb1).mono ?_); rintro e w2 ⟨rfl, hc⟩; obtain ⟨hb2, h2⟩ := stepO hb1 hb1.size h1 hc; have hz := heap_alloc_new w2 (.cells (irow 16 (fun _ => 0)) 24); have hbz : Below w2.heap.size w2 (w2.alloc (.cells (irow 16 (fun _ => 0)) 24)) := (Below.refl _ _).alloc (Nat.le_refl _) _)
    | (rw [zeros16]; go_must (refine strow arrShield _ _ rfl rfl _ _ rfl rfl _ _ hz ?_); have hbs := below_setRow hbz (Nat.le_refl _) (irow 16 (cst (der M))); have hgs := setRow_heap _ _ _ (irow 16 (cst (der M))) _ _ hz; obtain ⟨hb3, h3⟩ := stepO hb2 hb2.size h2 hbs; clear hz hbz hbs; generalize World.setRow _ _ _ = ws at hgs hb3 h3 ⊢))
  clear h0 h1 h2 hb0 hb1 hb2
  go_loop [7] (fun i => ∃ n : Nat, n ≤ 4 ∧ i = .int .i64 n) (fun i => 4 - (intOf i).toNat)
  case atStart => exact ⟨0, by omega, rfl⟩
  case round =>
    obtain ⟨n, hn, rfl⟩ := hrel
    by_cases hlt : n < 4
    · have hlt' : (n : Int) < 4 := by omega
      have hc := cell_irow h3 n (by omega)
      have hv := HV.out n hlt
      have hcall := hid (fun W => rFigure_yes (cst M n) (by simp) (by simp; omega) W)
      go_wp2_with (go_at_call 24; refine (hcall.out _).mono ?_; rintro e w' ⟨rfl, rfl⟩)
      go_round
      case rel => exact ⟨n + 1, by omega, by go_num⟩
      case measure => simp [intOf]; omega
    · have hge : ¬ (n : Int) < 4 := by omega
      have hls := heap_lt hgs
      have hlm := heap_lt h3
      have hu24 : Tryd.prog.underlying 24 = some (.array 16 22) := Tryd.underlying24
      have hi24 : (Tryd.prog.info? 24).map (·.size) = some (irow 16 (cst (der M))).toList.length := by rw [Array.length_toList, irow_size]; kernel_rfl
      have hlen : (irow 16 (cst (der M))).toList.length = 16 := by simp
      have hone := irow_one 16 (cst (der M))
      have K := hid (fun W (hb : Below ws.heap.size ws W) => (⟨range_irow (heap_below hb hgs hls), cell_irow (heap_below hb h3 hlm) 0 (by omega), cell_irow (heap_below hb h3 hlm) 1 (by omega), cell_irow (heap_below hb h3 hlm) 2 (by omega), cell_irow (heap_below hb h3 hlm) 3 (by omega), hb⟩ : W.rangeAt w2.heap.size 0 (irow 16 (cst (der M))).toList ∧ W.cell? ⟨w.heap.size, 0, none⟩ = some (.int .i64 ((M 0 : Nat) : Int)) ∧ W.cell? ⟨w.heap.size, 1, none⟩ = some (.int .i64 ((M 1 : Nat) : Int)) ∧ W.cell? ⟨w.heap.size, 2, none⟩ = some (.int .i64 ((M 2 : Nat) : Int)) ∧ W.cell? ⟨w.heap.size, 3, none⟩ = some (.int .i64 ((M 3 : Nat) : Int)) ∧ Below ws.heap.size ws W))
      have K0 := hid (K.out ws.drew (Below.refl _ _).drew)
      have KC := hid (fun W W2 (h2 : Below W.heap.size W W2) (hb : W.rangeAt w2.heap.size 0 (irow 16 (cst (der M))).toList ∧ W.cell? ⟨w.heap.size, 0, none⟩ = some (.int .i64 ((M 0 : Nat) : Int)) ∧ W.cell? ⟨w.heap.size, 1, none⟩ = some (.int .i64 ((M 1 : Nat) : Int)) ∧ W.cell? ⟨w.heap.size, 2, none⟩ = some (.int .i64 ((M 2 : Nat) : Int)) ∧ W.cell? ⟨w.heap.size, 3, none⟩ = some (.int .i64 ((M 3 : Nat) : Int)) ∧ Below ws.heap.size ws W) => K.out W2 (hb.2.2.2.2.2.trans (h2.mono hb.2.2.2.2.2.size)))
      have KL := hid (fun W (hb : W.rangeAt w2.heap.size 0 (irow 16 (cst (der M))).toList ∧ W.cell? ⟨w.heap.size, 0, none⟩ = some (.int .i64 ((M 0 : Nat) : Int)) ∧ W.cell? ⟨w.heap.size, 1, none⟩ = some (.int .i64 ((M 1 : Nat) : Int)) ∧ W.cell? ⟨w.heap.size, 2, none⟩ = some (.int .i64 ((M 2 : Nat) : Int)) ∧ W.cell? ⟨w.heap.size, 3, none⟩ = some (.int .i64 ((M 3 : Nat) : Int)) ∧ Below ws.heap.size ws W) => HL.out W (hb3.trans (hb.2.2.2.2.2.mono hb3.size)))
      clear K hgs h3
      rw [← lit4 M] at HR hq1
      go_wp2_with fail
      go_region_held3 (fun W => W.rangeAt w2.heap.size 0 (irow 16 (cst (der M))).toList ∧ W.cell? ⟨w.heap.size, 0, none⟩ = some (.int .i64 ((M 0 : Nat) : Int)) ∧ W.cell? ⟨w.heap.size, 1, none⟩ = some (.int .i64 ((M 1 : Nat) : Int)) ∧ W.cell? ⟨w.heap.size, 2, none⟩ = some (.int .i64 ((M 2 : Nat) : Int)) ∧ W.cell? ⟨w.heap.size, 3, none⟩ = some (.int .i64 ((M 3 : Nat) : Int)) ∧ Below ws.heap.size ws W)
        (first | exact K0.out | exact KC.out _ _ (by assumption) (by assumption))
        (first | (go_at_call 25; refine (HM.out _).mono ?_; rintro e w6 ⟨rfl, hb6⟩) | (go_at_call 26; refine (HR.out _).mono ?_; rintro e w7 ⟨rfl, hb7⟩) | (go_at_call 19; refine (KL.out _ (by assumption)).mono ?_; rintro e w8 ⟨rfl, hb8⟩))
      have hb9 := And.right (And.right (And.right (And.right (And.right (show w8.rangeAt w2.heap.size 0 (irow 16 (cst (der M))).toList ∧ w8.cell? ⟨w.heap.size, 0, none⟩ = some (.int .i64 ((M 0 : Nat) : Int)) ∧ w8.cell? ⟨w.heap.size, 1, none⟩ = some (.int .i64 ((M 1 : Nat) : Int)) ∧ w8.cell? ⟨w.heap.size, 2, none⟩ = some (.int .i64 ((M 2 : Nat) : Int)) ∧ w8.cell? ⟨w.heap.size, 3, none⟩ = some (.int .i64 ((M 3 : Nat) : Int)) ∧ Below ws.heap.size ws w8 by assumption)))))
      go_wp2_with fail
      go_ret
      exact ⟨rfl, hb3.trans (hb9.mono hb3.size)⟩

theorem lawDerives (S : Nat → Int) (w : World) (L : Base w) :
    Calls Tryd.prog 4 #[.agg (irow 4 S)] w fun e w' => e = .returned (.bool true) ∧ Below w.heap.size w w' := by
  by_cases hS : ∀ i, i < 4 → Fig (S i)
  · have e : irow 4 S = irow 4 (cst (fun i => (S i).toNat)) := irow_congr fun i hi => by have := hS i hi; unfold Fig at this; simp only [cst]; congr 1; omega
    rw [e]
    exact lawDerives_yes _ (fun i hi => by have := hS i hi; unfold Fig at this; show (S i).toNat < 16; omega) w L
  · exact lawDerives_no S hS w L
end Go.Proofs.YtphnibllfpkkkaaDoor
