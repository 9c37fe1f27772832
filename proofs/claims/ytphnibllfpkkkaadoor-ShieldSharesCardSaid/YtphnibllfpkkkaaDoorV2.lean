/- The law ShieldWays: the walk. -/
import Derived.Test.YtphnibllfpkkkaaDoorV1
namespace Go.Proofs.YtphnibllfpkkkaaDoor
open Go Go.RowKit
set_option maxRecDepth 100000

abbrev Base := Laid
theorem known_b (w : World) (L : Base w) : Calls Tryd.prog 19 #[] w fun e w' => e = .returned (.bool true) ∧ Below w.heap.size w w' := known_c w L

/-- A row is loaded behind a guard. -/
theorem ldrowG {P : Program} {T n : Nat} (hT : ArrT P T n) {ops : Array Oper} {rest : List Oper} {o : Oper} {a : Act} {w : World} {Q : Exit → Act → World → Prop} (x : Operand) (ho : o.op = .load T x)
    (hw : Region.wanted o (yielded ops a.tmps) = true)
    (g : Nat) (hx : a.eval x = .pointer (some ⟨g, 0, none⟩)) (S : Nat → Int) (t : TypeId) (hg : w.heap[g]? = some (.cells (irow n S) t (0, 0)))
    (h : wpList P ops Q rest (a.put o.dst (.agg (irow n S))) w) : wpList P ops Q (o :: rest) a w := by
  obtain ⟨m, e, hu⟩ := hT.und
  exact Go.BigFrame.wpList_want hw fun K hK => wp_load_row T x ho g hx t _ (0, 0) _ hg hu rfl (by rw [irow_size]; exact hT.siz) (hK _ _ h)

/-- The world after a call, as seen from the law's own. -/
theorem step {w W W' : World} {S : Nat → Int} (hb : Below w.heap.size w W) (hg : W.heap[w.heap.size]? = some (.cells (irow 16 S) 24 (0, 0))) (h : Below W.heap.size W W') :
    Below w.heap.size w W' ∧ W'.heap[w.heap.size]? = some (.cells (irow 16 S) 24 (0, 0)) := ⟨hb.trans (h.mono hb.size), heap_below h hg (heap_lt hg)⟩

set_option maxHeartbeats 600000 in
theorem lawWays_inv (S : Nat → Int) (line : Int) (hS : ¬ ∀ i, i < 16 → Fig (S i)) (w : World) (L : Base w) :
    Calls Tryd.prog 3 #[.agg (irow 16 S), .int .i64 line] w fun e w' => e = .returned (.bool true) ∧ Below w.heap.size w w' := by
  have h0 := heap_alloc_new w (.cells (irow 16 S) 24)
  have hb0 : Below w.heap.size w (w.alloc (.cells (irow 16 S) 24)) := (Below.refl _ _).alloc (Nat.le_refl _) _
  have HW := hid (fun W => Way_inv S line hS W)
  have HS := hid (fun W => rShield_no S hS W)
  have HL := hid (fun W (hb : Below w.heap.size w W) => known_b W (L.below hb))
  clear hS L
  go_enter Tryd.func3, Tryd.ntmps3
  go_wp2_with (first
    | (refine ldrow arrShield _ rfl rfl _ rfl _ _ h0 ?_) | (refine ldrow arrShield _ rfl rfl _ rfl _ _ h1 ?_) | (refine ldrow arrShield _ rfl rfl _ rfl _ _ h2 ?_)
    | (go_at_call 15; go_must (refine (HW.out _).mono ?_); rintro e w1 ⟨rfl, hc⟩; obtain ⟨hb1, h1⟩ := step hb0 h0 hc)
    | (go_at_call 16; go_must (refine (HS.out _).mono ?_); rintro e w2 ⟨rfl, hc⟩; obtain ⟨hb2, h2⟩ := step hb1 h1 hc)
    | (go_at_call 19; go_must (refine (HL.out _ hb2).mono ?_); rintro e w3 ⟨rfl, hc⟩; obtain ⟨hb3, h3⟩ := step hb2 h2 hc))
  go_ret
  exact ⟨rfl, hb3⟩

set_option maxHeartbeats 600000 in
theorem lawWays_range (S : Nat → Int) (line : Int) (hS : ∀ i, i < 16 → Fig (S i)) (hl : line < 0 ∨ 3 < line) (w : World) (L : Base w) :
    Calls Tryd.prog 3 #[.agg (irow 16 S), .int .i64 line] w fun e w' => e = .returned (.bool true) ∧ Below w.heap.size w w' := by
  have h0 := heap_alloc_new w (.cells (irow 16 S) 24)
  have hb0 : Below w.heap.size w (w.alloc (.cells (irow 16 S) 24)) := (Below.refl _ _).alloc (Nat.le_refl _) _
  have HW := hid (fun W => Way_range S line hS hl W)
  have HS := hid (fun W => rShield_yes S hS W)
  have HL := hid (fun W (hb : Below w.heap.size w W) => known_b W (L.below hb))
  clear hS L
  rcases hl with hl | hl
  all_goals
    have a1 : decide (line < 0) = decide (line < 0) := rfl
    try have a2 : ¬ line < 0 := by omega
    go_enter Tryd.func3, Tryd.ntmps3
    go_wp2_with (first
      | (refine ldrow arrShield _ rfl rfl _ rfl _ _ h0 ?_) | (refine ldrow arrShield _ rfl rfl _ rfl _ _ h1 ?_) | (refine ldrow arrShield _ rfl rfl _ rfl _ _ h2 ?_) | (refine ldrow arrShield _ rfl rfl _ rfl _ _ h3 ?_)
      | (go_at_call 15; go_must (refine (HW.out _).mono ?_); rintro e w1 ⟨rfl, hc⟩; obtain ⟨hb1, h1⟩ := step hb0 h0 hc)
      | (go_at_call 16; go_must (refine (HS.out _).mono ?_); rintro e w2 ⟨rfl, hc⟩; obtain ⟨hb2, h2⟩ := step hb1 h1 hc)
      | (go_at_call 19; go_must (refine (HL.out _ hb2).mono ?_); rintro e w3 ⟨rfl, hc⟩; obtain ⟨hb3, h3⟩ := step hb2 h2 hc))
    go_ret
    exact ⟨rfl, hb3⟩

set_option maxHeartbeats 600000 in
theorem lawWays_wrong (F : Nat → Nat) (hF : ∀ i, i < 16 → F i < 16) (l : Nat) (hl : l < 4) (hch : ¬ Chart F) (w : World) (L : Base w) :
    Calls Tryd.prog 3 #[.agg (irow 16 (cst F)), .int .i64 (l : Nat)] w fun e w' => e = .returned (.bool true) ∧ Below w.heap.size w w' := by
  have h0 := heap_alloc_new w (.cells (irow 16 (cst F)) 24)
  have hb0 : Below w.heap.size w (w.alloc (.cells (irow 16 (cst F)) 24)) := (Below.refl _ _).alloc (Nat.le_refl _) _
  have HW := hid (fun W (hb : Below w.heap.size w W) => Way_wrong F hF l hl hch W (L.below hb))
  have HS := hid (fun W => rShield_yes (cst F) (fun i hi => ⟨by simp, by have := hF i hi; simp; omega⟩) W)
  have HR := hid (fun W => rWrong F hF W)
  have HL := hid (fun W (hb : Below w.heap.size w W) => known_b W (L.below hb))
  have hlen : (0 : Int) < ((wl F 16).length : Nat) := by
    rcases h : wl F 16 with _ | ⟨x, xs⟩
    · exact absurd ((chart_wl F).2 h) hch
    · simp <;> omega
  have hlen' : 0 < (wl F 16).length := by omega
  have a1 : ¬ ((l : Nat) : Int) < 0 := by omega
  have a2 : ¬ (3 : Int) < (l : Nat) := by omega
  clear hF hch L
  generalize wl F 16 = xs at *
  go_enter Tryd.func3, Tryd.ntmps3
  go_wp2_with (first
    | (refine ldrow arrShield _ rfl rfl _ rfl _ _ h0 ?_) | (refine ldrow arrShield _ rfl rfl _ rfl _ _ h1 ?_) | (refine ldrow arrShield _ rfl rfl _ rfl _ _ h2 ?_) | (refine ldrow arrShield _ rfl rfl _ rfl _ _ h3 ?_)
    | (go_at_call 15; go_must (refine (HW.out _ hb0).mono ?_); rintro e w1 ⟨rfl, hc⟩; obtain ⟨hb1, h1⟩ := step hb0 h0 hc)
    | (go_at_call 16; go_must (refine (HS.out _).mono ?_); rintro e w2 ⟨rfl, hc⟩; obtain ⟨hb2, h2⟩ := step hb1 h1 hc)
    | (go_at_call 17; go_must (refine (HR.out _).mono ?_); rintro e w3 ⟨v, rfl, hi, hc⟩; obtain ⟨hb3, h3⟩ := step hb2 h2 hc; obtain ⟨p, c, rfl⟩ := hi.form)
    | (go_at_call 19; go_must (refine (HL.out _ hb3).mono ?_); rintro e w4 ⟨rfl, hc⟩; obtain ⟨hb4, h4⟩ := step hb3 h3 hc))
  go_ret
  exact ⟨rfl, hb4⟩

set_option maxHeartbeats 600000 in
theorem lawWays_none (F : Nat → Nat) (hF : ∀ i, i < 16 → F i < 16) (l : Nat) (hl : l < 4) (hch : Chart F) (h14 : bitB (F 14) l = false) (w : World) (L : Base w) :
    Calls Tryd.prog 3 #[.agg (irow 16 (cst F)), .int .i64 (l : Nat)] w fun e w' => e = .returned (.bool true) ∧ Below w.heap.size w w' := by
  have h0 := heap_alloc_new w (.cells (irow 16 (cst F)) 24)
  have hb0 : Below w.heap.size w (w.alloc (.cells (irow 16 (cst F)) 24)) := (Below.refl _ _).alloc (Nat.le_refl _) _
  have HW := hid (fun W (hb : Below w.heap.size w W) => Way_none F hF l hl hch h14 W (L.below hb))
  have HS := hid (fun W => rShield_yes (cst F) (fun i hi => ⟨by simp, by have := hF i hi; simp; omega⟩) W)
  have HR := hid (fun W => rWrong F hF W)
  have HL := hid (fun W (hb : Below w.heap.size w W) => known_b W (L.below hb))
  have HN := hid (fun W => rLine (F 14) l (hF 14 (by omega)) (by omega) W)
  rw [(chart_wl F).1 hch] at HR
  have hl14 : ((ln (F 14) l : Nat) : Int) = 2 := by rw [ln_bit, h14]; rfl
  rw [hl14] at HN
  have a1 : ¬ ((l : Nat) : Int) < 0 := by omega
  have a2 : ¬ (3 : Int) < (l : Nat) := by omega
  clear hF hch L hl14
  go_enter Tryd.func3, Tryd.ntmps3
  go_wp2_with (first
    | (refine ldrow arrShield _ rfl rfl _ rfl _ _ h0 ?_) | (refine ldrow arrShield _ rfl rfl _ rfl _ _ h1 ?_) | (refine ldrow arrShield _ rfl rfl _ rfl _ _ h2 ?_) | (refine ldrow arrShield _ rfl rfl _ rfl _ _ h3 ?_)
    | (go_at_call 15; go_must (refine (HW.out _ hb0).mono ?_); rintro e w1 ⟨rfl, hc⟩; obtain ⟨hb1, h1⟩ := step hb0 h0 hc)
    | (go_at_call 16; go_must (refine (HS.out _).mono ?_); rintro e w2 ⟨rfl, hc⟩; obtain ⟨hb2, h2⟩ := step hb1 h1 hc)
    | (go_at_call 17; go_must (refine (HR.out _).mono ?_); rintro e w3 ⟨v, rfl, hi, hc⟩; obtain ⟨hb3, h3⟩ := step hb2 h2 hc; obtain ⟨p, c, rfl⟩ := hi.form; have hc14 : w3.cell? ⟨w.heap.size, 14, none⟩ = some (.int .i64 (F 14 : Nat)) := cell_irow h3 14 (by omega))
    | (go_at_call 18; go_must (refine (HN.out _).mono ?_); rintro e w4 ⟨rfl, rfl⟩)
    | (go_at_call 19; go_must (refine (HL.out _ hb3).mono ?_); rintro e w4 ⟨rfl, hc⟩; obtain ⟨hb4, h4⟩ := step hb3 h3 hc))
  go_ret
  exact ⟨rfl, hb4⟩

set_option maxHeartbeats 600000 in
theorem lawWays_ok (F : Nat → Nat) (hF : ∀ i, i < 16 → F i < 16) (l : Nat) (hl : l < 4) (hch : Chart F) (h14 : bitB (F 14) l = true) (w : World) (L : Base w) :
    Calls Tryd.prog 3 #[.agg (irow 16 (cst F)), .int .i64 (l : Nat)] w fun e w' => e = .returned (.bool true) ∧ Below w.heap.size w w' := by
  have h0 := heap_alloc_new w (.cells (irow 16 (cst F)) 24)
  have hb0 : Below w.heap.size w (w.alloc (.cells (irow 16 (cst F)) 24)) := (Below.refl _ _).alloc (Nat.le_refl _) _
  have HW := hid (fun W (hb : Below w.heap.size w W) => Way_ok F hF l hl hch h14 W (L.below hb))
  have HS := hid (fun W => rShield_yes (cst F) (fun i hi => ⟨by simp, by have := hF i hi; simp; omega⟩) W)
  have HR := hid (fun W => rWrong F hF W)
  have HL := hid (fun W (hb : Below w.heap.size w W) => known_b W (L.below hb))
  have HN := hid (fun W => rLine (F 14) l (hF 14 (by omega)) (by omega) W)
  have HX := hid (fun W => rWay F hF l hl W)
  rw [(chart_wl F).1 hch] at HR
  have hl14 : ((ln (F 14) l : Nat) : Int) = 1 := by rw [ln_bit, h14]; rfl
  rw [hl14] at HN
  have hx : rwayL F l = wlist F l 3 := by unfold rwayL; rw [h14]; rfl
  rw [hx] at HX
  have hwl : (wlist F l 3).length ≤ 9223372036854775807 := by rw [wlist_len]; omega
  have a1 : ¬ ((l : Nat) : Int) < 0 := by omega
  have a2 : ¬ (3 : Int) < (l : Nat) := by omega
  clear hF hch L hl14 hx
  generalize wlist F l 3 = ys at *
  go_enter Tryd.func3, Tryd.ntmps3
  go_wp2_with (first
    | (refine ldrow arrShield _ rfl rfl _ rfl _ _ h0 ?_) | (refine ldrow arrShield _ rfl rfl _ rfl _ _ h1 ?_) | (refine ldrow arrShield _ rfl rfl _ rfl _ _ h2 ?_) | (refine ldrow arrShield _ rfl rfl _ rfl _ _ h3 ?_) | (refine ldrowG arrShield _ rfl rfl _ rfl _ _ h3 ?_)
    | (go_at_call 15; go_must (refine (HW.out _ hb0).mono ?_); rintro e w1 ⟨vw, rfl, hiw, hc⟩; obtain ⟨hb1, h1⟩ := step hb0 h0 hc)
    | (go_at_call 16; go_must (refine (HS.out _).mono ?_); rintro e w2 ⟨rfl, hc⟩; obtain ⟨hb2, h2⟩ := step hb1 h1 hc; have hiw2 := hiw.below hc)
    | (go_at_call 17; go_must (refine (HR.out _).mono ?_); rintro e w3 ⟨v, rfl, hi, hc⟩; obtain ⟨hb3, h3⟩ := step hb2 h2 hc; have hiw3 := hiw2.below hc; obtain ⟨p, c, rfl⟩ := hi.form; have hc14 : w3.cell? ⟨w.heap.size, 14, none⟩ = some (.int .i64 (F 14 : Nat)) := cell_irow h3 14 (by omega))
    | (go_at_call 18; go_must (refine (HN.out _).mono ?_); rintro e w4 ⟨rfl, rfl⟩)
    | (go_at_call 21; go_must (refine (HX.out _).mono ?_); rintro e w4 ⟨vr, rfl, hi4, hc⟩; obtain ⟨hb4, h4⟩ := step hb3 h3 hc; have hiw4 := (hiw3.below hc).reads)
    | (go_at_call 20; go_must (refine (same_true vw _ ys _ hiw4 hi4.reads hwl).mono ?_); rintro e w5 ⟨rfl, hc⟩; obtain ⟨hb5, h5⟩ := step hb4 h4 hc)
    | (go_at_call 19; go_must (refine (HL.out _ hb5).mono ?_); rintro e w6 ⟨rfl, hc⟩; obtain ⟨hb6, h6⟩ := step hb5 h5 hc))
  go_ret
  exact ⟨rfl, hb6⟩

/-- The figures of a row, as naturals. -/
theorem nat_row (S : Nat → Int) (hS : ∀ i, i < 16 → Fig (S i)) : ∃ F : Nat → Nat, (∀ i, i < 16 → F i < 16) ∧ irow 16 S = irow 16 (cst F) :=
  ⟨fun i => (S i).toNat, fun i hi => by have := hS i hi; unfold Fig at this; show (S i).toNat < 16; omega, irow_congr fun i hi => by have := hS i hi; unfold Fig at this; simp only [cst]; congr 1; omega⟩

theorem lawWays (S : Nat → Int) (line : Int) (w : World) (L : Base w) :
    Calls Tryd.prog 3 #[.agg (irow 16 S), .int .i64 line] w fun e w' => e = .returned (.bool true) ∧ Below w.heap.size w w' := by
  by_cases hS : ∀ i, i < 16 → Fig (S i)
  · by_cases hl : line < 0 ∨ 3 < line
    · exact lawWays_range S line hS hl w L
    · obtain ⟨F, hF, e⟩ := nat_row S hS
      obtain ⟨l, rfl⟩ : ∃ l : Nat, line = l := ⟨line.toNat, by omega⟩
      have hl4 : l < 4 := by omega
      rw [e]
      by_cases hch : Chart F
      · cases h14 : bitB (F 14) l with
        | false => exact lawWays_none F hF l hl4 hch h14 w L
        | true => exact lawWays_ok F hF l hl4 hch h14 w L
      · exact lawWays_wrong F hF l hl4 hch w L
  · exact lawWays_inv S line hS w L
end Go.Proofs.YtphnibllfpkkkaaDoor
