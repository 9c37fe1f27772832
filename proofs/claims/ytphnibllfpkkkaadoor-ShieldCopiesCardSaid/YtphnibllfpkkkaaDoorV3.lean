/- The law ShieldWays: the walk. -/
import Derived.Test.YtphnibllfpkkkaaDoorW10
import Derived.Test.YtphnibllfpkkkaaDoorR7
namespace Go.Proofs.YtphnibllfpkkkaaDoor
open Go Go.RowKit
set_option maxRecDepth 100000

theorem Ints.form {w : World} {B : Nat} {v : Value} {xs : List Int} (h : Ints w B v xs) : ∃ p c, v = .slice p xs.length c := by
  rcases h.2 with ⟨h2, h3⟩ | ⟨g, cap, cur, h3, _⟩
  · exact ⟨none, 0, by rw [h2, h3]⟩
  · exact ⟨_, _, h3⟩
/-- The places that do not follow: none, where the chart is one. -/
theorem wl_nil (F : Nat → Nat) : ∀ p, (wl F p = [] ↔ ∀ i, i < p → 4 ≤ i → F i = fol F i)
  | 0 => by simp [wl]
  | p + 1 => by
    rw [wl]
    split
    · rename_i h
      rw [wl_nil F p]
      constructor
      · intro H i hi h4
        by_cases e : i = p
        · subst e; rcases h with h | h
          · omega
          · exact h
        · exact H i (by omega) h4
      · intro H i hi h4
        exact H i (by omega) h4
    · rename_i h
      constructor
      · intro e; simp at e
      · intro H
        exact absurd (.inr (H p (by omega) (by omega))) h
theorem fol_congr {F G : Nat → Nat} (k : Nat) (hk : k < 16) (h : ∀ i, i < k → F i = G i) (h4 : 4 ≤ k) : fol F k = fol G k := by
  unfold fol
  split
  · rename_i h8
    have := pa_dn k h8 hk
    rw [h _ this.1, h _ this.2]
  · have : ∀ n, n ≤ 4 → dg F (k - 4) n = dg G (k - 4) n := by
      intro n
      induction n with
      | zero => intro _; rfl
      | succ n ih =>
        intro hn
        simp only [dg]
        rw [ih (by omega), h n (by omega)]
    exact this 4 (Nat.le_refl _)
theorem up_lo (M : Nat → Nat) (i : Nat) (hi : i < 4) : ∀ n, up M n i = M i
  | 0 => by simp [up, overN, hi]
  | n + 1 => by
    rw [up]
    have : ¬ i = n + 4 := by omega
    simp only [upN, if_neg this]
    exact up_lo M i hi n
theorem up_keep (M : Nat → Nat) (i : Nat) : ∀ n m, i < n + 4 → n ≤ m → up M m i = up M n i := by
  intro n m hi hm
  induction m with
  | zero => obtain rfl : n = 0 := by omega
            rfl
  | succ m ih =>
    by_cases e : n = m + 1
    · rw [e]
    · rw [up]
      have : ¬ i = m + 4 := by omega
      simp only [upN, if_neg this]
      exact ih (by omega)
theorem der_fol (M : Nat → Nat) (i : Nat) (h4 : 4 ≤ i) (h16 : i < 16) : der M i = fol (der M) i := by
  obtain ⟨n, rfl⟩ : ∃ n, i = n + 4 := ⟨i - 4, by omega⟩
  have e1 : der M (n + 4) = up M (n + 1) (n + 4) := up_keep M (n + 4) (n + 1) 12 (by omega) (by omega)
  rw [e1, up]
  simp only [upN, if_pos]
  exact fol_congr (n + 4) h16 (fun j hj => (up_keep M j n 12 (by omega) (by omega)).symm) h4
theorem der_lo (M : Nat → Nat) (i : Nat) (hi : i < 4) : der M i = M i := up_lo M i hi 12
theorem der_unique (M G : Nat → Nat) (h0 : ∀ i, i < 4 → G i = M i) (h1 : ∀ i, i < 16 → 4 ≤ i → G i = fol G i) : ∀ i, i < 16 → der M i = G i := by
  intro i
  induction i using Nat.strongRecOn with
  | _ i ih =>
    intro hi
    by_cases h4 : i < 4
    · rw [der_lo M i h4, h0 i h4]
    · rw [der_fol M i (by omega) hi, h1 i hi (by omega)]
      exact fol_congr i hi (fun j hj => ih j hj (by omega)) (by omega)
theorem chart_wl (F : Nat → Nat) : Chart F ↔ wl F 16 = [] := by
  rw [wl_nil]
  constructor
  · intro h i hi h4
    have := der_fol F i h4 hi
    rw [h i hi] at this
    rw [this]
    exact fol_congr i hi (fun j hj => h j (by omega)) h4
  · intro h i hi
    exact der_unique F F (fun _ _ => rfl) h i hi
end Go.Proofs.YtphnibllfpkkkaaDoor
/- The law ShieldWays: the walk. -/
namespace Go.Proofs.YtphnibllfpkkkaaDoor
open Go Go.RowKit
set_option maxRecDepth 100000

abbrev Base := Laid
theorem known_b (w : World) (L : Base w) : Calls Tryd.prog 19 #[] w fun e w' => e = .returned (.bool true) ∧ Below w.heap.size w w' := known_c w L

/-- A row is loaded behind a guard. -/
theorem ldrowG {P : Program} {T n : Nat} (hT : ArrT P T n) {ops : Array Oper} {rest : List Oper} {o : Oper} {a : Act} {w : World} {Q : Exit → Act → World → Prop} (x : Operand) (ho : o.op = .load T x)
    (hw : Region.wanted o (yielded ops a.tmps) = true)
    (g : Nat) (hx : a.eval x = .pointer (some ⟨g, 0, none⟩)) (S : Nat → Int) (t : TypeId) (hg : w.heap[g]? = some (.cells (irow n S) t (0, 0)))
    (h : wpList P ops Q rest (a.put o.dst (.agg (irow n S))) w) : wpList P ops Q (o :: rest) a w := by
  obtain ⟨m, e, hu⟩ := hT.und
  exact Go.BigFrame.wpList_want hw fun K hK => wp_load_row T x ho g hx t _ (0, 0) _ hg hu rfl (by rw [irow_size]; exact hT.siz) (hK _ _ h)

/-- The world after a call, as seen from the law's own. -/
theorem step {w W W' : World} {S : Nat → Int} (hb : Below w.heap.size w W) (hg : W.heap[w.heap.size]? = some (.cells (irow 16 S) 24 (0, 0))) (h : Below W.heap.size W W') :
    Below w.heap.size w W' ∧ W'.heap[w.heap.size]? = some (.cells (irow 16 S) 24 (0, 0)) := ⟨hb.trans (h.mono hb.size), heap_below h hg (heap_lt hg)⟩

set_option maxHeartbeats 600000 in
theorem lawWays_inv (S : Nat → Int) (line : Int) (hS : ¬ ∀ i, i < 16 → Fig (S i)) (w : World) (L : Base w) :
    Calls Tryd.prog 3 #[.agg (irow 16 S), .int .i64 line] w fun e w' => e = .returned (.bool true) ∧ Below w.heap.size w w' := by
  have h0 := heap_alloc_new w (.cells (irow 16 S) 24)
  have hb0 : Below w.heap.size w (w.alloc (.cells (irow 16 S) 24)) := (Below.refl _ _).alloc (Nat.le_refl _) _
  have HW := hid (fun W => Way_inv S line hS W)
  have HS := hid (fun W => rShield_no S hS W)
  have HL := hid (fun W (hb : Below w.heap.size w W) => known_b W (L.below hb))
  clear hS L
  go_enter Tryd.func3, Tryd.ntmps3
  go_wp2_with (first
    | (refine ldrow arrShield _ rfl rfl _ rfl _ _ h0 ?_) | (refine ldrow arrShield _ rfl rfl _ rfl _ _ h1 ?_) | (refine ldrow arrShield _ rfl rfl _ rfl _ _ h2 ?_)
    | (go_at_call 15; go_must (refine (HW.out _).mono ?_); rintro e w1 ⟨rfl, hc⟩; obtain ⟨hb1, h1⟩ := step hb0 h0 hc)
    | (go_at_call 16; go_must (refine (HS.out _).mono ?_); rintro e w2 ⟨rfl, hc⟩; obtain ⟨hb2, h2⟩ := step hb1 h1 hc)
    | (go_at_call 19; go_must (refine (HL.out _ hb2).mono ?_); rintro e w3 ⟨rfl, hc⟩; obtain ⟨hb3, h3⟩ := step hb2 h2 hc))
  go_ret
  exact ⟨rfl, hb3⟩

set_option maxHeartbeats 600000 in
theorem lawWays_range (S : Nat → Int) (line : Int) (hS : ∀ i, i < 16 → Fig (S i)) (hl : line < 0 ∨ 3 < line) (w : World) (L : Base w) :
    Calls Tryd.prog 3 #[.agg (irow 16 S), .int .i64 line] w fun e w' => e = .returned (.bool true) ∧ Below w.heap.size w w' := by
  have h0 := heap_alloc_new w (.cells (irow 16 S) 24)
  have hb0 : Below w.heap.size w (w.alloc (.cells (irow 16 S) 24)) := (Below.refl _ _).alloc (Nat.le_refl _) _
  have HW := hid (fun W => Way_range S line hS hl W)
  have HS := hid (fun W => rShield_yes S hS W)
  have HL := hid (fun W (hb : Below w.heap.size w W) => known_b W (L.below hb))
  clear hS L
  rcases hl with hl | hl
  all_goals
    have a1 : decide (line < 0) = decide (line < 0) := rfl
    try have a2 : ¬ line < 0 := by omega
    go_enter Tryd.func3, Tryd.ntmps3
    go_wp2_with (first
      | (refine ldrow arrShield _ rfl rfl _ rfl _ _ h0 ?_) | (refine ldrow arrShield _ rfl rfl _ rfl _ _ h1 ?_) | (refine ldrow arrShield _ rfl rfl _ rfl _ _ h2 ?_) | (refine ldrow arrShield _ rfl rfl _ rfl _ _ h3 ?_)
      | (go_at_call 15; go_must (refine (HW.out _).mono ?_); rintro e w1 ⟨rfl, hc⟩; obtain ⟨hb1, h1⟩ := step hb0 h0 hc)
      | (go_at_call 16; go_must (refine (HS.out _).mono ?_); rintro e w2 ⟨rfl, hc⟩; obtain ⟨hb2, h2⟩ := step hb1 h1 hc)
      | (go_at_call 19; go_must (refine (HL.out _ hb2).mono ?_); rintro e w3 ⟨rfl, hc⟩; obtain ⟨hb3, h3⟩ := step hb2 h2 hc))
    go_ret
    exact ⟨rfl, hb3⟩

set_option maxHeartbeats 600000 in
theorem lawWays_wrong (F : Nat → Nat) (hF : ∀ i, i < 16 → F i < 16) (l : Nat) (hl : l < 4) (hch : ¬ Chart F) (w : World) (L : Base w) :
    Calls Tryd.prog 3 #[.agg (irow 16 (cst F)), .int .i64 (l : Nat)] w fun e w' => e = .returned (.bool true) ∧ Below w.heap.size w w' := by
  have h0 := heap_alloc_new w (.cells (irow 16 (cst F)) 24)
  have hb0 : Below w.heap.size w (w.alloc (.cells (irow 16 (cst F)) 24)) := (Below.refl _ _).alloc (Nat.le_refl _) _
  have HW := hid (fun W (hb : Below w.heap.size w W) => Way_wrong F hF l hl hch W (L.below hb))
  have HS := hid (fun W => rShield_yes (cst F) (fun i hi => ⟨by simp, by have := hF i hi; simp; omega⟩) W)
  have HR := hid (fun W => rWrong F hF W)
  have HL := hid (fun W (hb : Below w.heap.size w W) => known_b W (L.below hb))
  have hlen : (0 : Int) < ((wl F 16).length : Nat) := by
    rcases h : wl F 16 with _ | ⟨x, xs⟩
    · exact absurd ((chart_wl F).2 h) hch
    · simp <;> omega
  have hlen' : 0 < (wl F 16).length := by omega
  have a1 : ¬ ((l : Nat) : Int) < 0 := by omega
  have a2 : ¬ (3 : Int) < (l : Nat) := by omega
  clear hF hch L
  generalize wl F 16 = xs at *
  go_enter Tryd.func3, Tryd.ntmps3
  go_wp2_with (first
    | (refine ldrow arrShield _ rfl rfl _ rfl _ _ h0 ?_) | (refine ldrow arrShield _ rfl rfl _ rfl _ _ h1 ?_) | (refine ldrow arrShield _ rfl rfl _ rfl _ _ h2 ?_) | (refine ldrow arrShield _ rfl rfl _ rfl _ _ h3 ?_)
    | (go_at_call 15; go_must (refine (HW.out _ hb0).mono ?_); rintro e w1 ⟨rfl, hc⟩; obtain ⟨hb1, h1⟩ := step hb0 h0 hc)
    | (go_at_call 16; go_must (refine (HS.out _).mono ?_); rintro e w2 ⟨rfl, hc⟩; obtain ⟨hb2, h2⟩ := step hb1 h1 hc)
    | (go_at_call 17; go_must (refine (HR.out _).mono ?_); rintro e w3 ⟨v, rfl, hi, hc⟩; obtain ⟨hb3, h3⟩ := step hb2 h2 hc; obtain ⟨p, c, rfl⟩ := hi.form)
    | (go_at_call 19; go_must (refine (HL.out _ hb3).mono ?_); rintro e w4 ⟨rfl, hc⟩; obtain ⟨hb4, h4⟩ := step hb3 h3 hc))
  go_ret
  exact ⟨rfl, hb4⟩

set_option maxHeartbeats 600000 in
theorem lawWays_none (F : Nat → Nat) (hF : ∀ i, i < 16 → F i < 16) (l : Nat) (hl : l < 4) (hch : Chart F) (h14 : bitB (F 14) l = false) (w : World) (L : Base w) :
    Calls Tryd.prog 3 #[.agg (irow 16 (cst F)), .int .i64 (l : Nat)] w fun e w' => e = .returned (.bool true) ∧ Below w.heap.size w w' := by
  have h0 := heap_alloc_new w (.cells (irow 16 (cst F)) 24)
  have hb0 : Below w.heap.size w (w.alloc (.cells (irow 16 (cst F)) 24)) := (Below.refl _ _).alloc (Nat.le_refl _) _
  have HW := hid (fun W (hb : Below w.heap.size w W) => Way_none F hF l hl hch h14 W (L.below hb))
  have HS := hid (fun W => rShield_yes (cst F) (fun i hi => ⟨by simp, by have := hF i hi; simp; omega⟩) W)
  have HR := hid (fun W => rWrong F hF W)
  have HL := hid (fun W (hb : Below w.heap.size w W) => known_b W (L.below hb))
  have HN := hid (fun W => rLine (F 14) l (hF 14 (by omega)) (by omega) W)
  rw [(chart_wl F).1 hch] at HR
  have hl14 : ((ln (F 14) l : Nat) : Int) = 2 := by rw [ln_bit, h14]; rfl
  rw [hl14] at HN
  have a1 : ¬ ((l : Nat) : Int) < 0 := by omega
  have a2 : ¬ (3 : Int) < (l : Nat) := by omega
  clear hF hch L hl14
  go_enter Tryd.func3, Tryd.ntmps3
  go_wp2_with (first
    | (refine ldrow arrShield _ rfl rfl _ rfl _ _ h0 ?_) | (refine ldrow arrShield _ rfl rfl _ rfl _ _ h1 ?_) | (refine ldrow arrShield _ rfl rfl _ rfl _ _ h2 ?_) | (refine ldrow arrShield _ rfl rfl _ rfl _ _ h3 ?_)
    | (go_at_call 15; go_must (refine (HW.out _ hb0).mono ?_); rintro e w1 ⟨rfl, hc⟩; obtain ⟨hb1, h1⟩ := step hb0 h0 hc)
    | (go_at_call 16; go_must (refine (HS.out _).mono ?_); rintro e w2 ⟨rfl, hc⟩; obtain ⟨hb2, h2⟩ := step hb1 h1 hc)
    | (go_at_call 17; go_must (refine (HR.out _).mono ?_); rintro e w3 ⟨v, rfl, hi, hc⟩; obtain ⟨hb3, h3⟩ := step hb2 h2 hc; obtain ⟨p, c, rfl⟩ := hi.form; have hc14 : w3.cell? ⟨w.heap.size, 14, none⟩ = some (.int .i64 (F 14 : Nat)) := cell_irow h3 14 (by omega))
    | (go_at_call 18; go_must (refine (HN.out _).mono ?_); rintro e w4 ⟨rfl, rfl⟩)
    | (go_at_call 19; go_must (refine (HL.out _ hb3).mono ?_); rintro e w4 ⟨rfl, hc⟩; obtain ⟨hb4, h4⟩ := step hb3 h3 hc))
  go_ret
  exact ⟨rfl, hb4⟩

set_option maxHeartbeats 600000 in
theorem lawWays_ok (F : Nat → Nat) (hF : ∀ i, i < 16 → F i < 16) (l : Nat) (hl : l < 4) (hch : Chart F) (h14 : bitB (F 14) l = true) (w : World) (L : Base w) :
    Calls Tryd.prog 3 #[.agg (irow 16 (cst F)), .int .i64 (l : Nat)] w fun e w' => e = .returned (.bool true) ∧ Below w.heap.size w w' := by
  have h0 := heap_alloc_new w (.cells (irow 16 (cst F)) 24)
  have hb0 : Below w.heap.size w (w.alloc (.cells (irow 16 (cst F)) 24)) := (Below.refl _ _).alloc (Nat.le_refl _) _
  have HW := hid (fun W (hb : Below w.heap.size w W) => Way_ok F hF l hl hch h14 W (L.below hb))
  have HS := hid (fun W => rShield_yes (cst F) (fun i hi => ⟨by simp, by have := hF i hi; simp; omega⟩) W)
  have HR := hid (fun W => rWrong F hF W)
  have HL := hid (fun W (hb : Below w.heap.size w W) => known_b W (L.below hb))
  have HN := hid (fun W => rLine (F 14) l (hF 14 (by omega)) (by omega) W)
  have HX := hid (fun W => rWay F hF l hl W)
  rw [(chart_wl F).1 hch] at HR
  have hl14 : ((ln (F 14) l : Nat) : Int) = 1 := by rw [ln_bit, h14]; rfl
  rw [hl14] at HN
  have hx : rwayL F l = wlist F l 3 := by unfold rwayL; rw [h14]; rfl
  rw [hx] at HX
  have hwl : (wlist F l 3).length ≤ 9223372036854775807 := by rw [wlist_len]; omega
  have a1 : ¬ ((l : Nat) : Int) < 0 := by omega
  have a2 : ¬ (3 : Int) < (l : Nat) := by omega
  clear hF hch L hl14 hx
  generalize wlist F l 3 = ys at *
  go_enter Tryd.func3, Tryd.ntmps3
  go_wp2_with (first
    | (refine ldrow arrShield _ rfl rfl _ rfl _ _ h0 ?_) | (refine ldrow arrShield _ rfl rfl _ rfl _ _ h1 ?_) | (refine ldrow arrShield _ rfl rfl _ rfl _ _ h2 ?_) | (refine ldrow arrShield _ rfl rfl _ rfl _ _ h3 ?_) | (refine ldrowG arrShield _ rfl rfl _ rfl _ _ h3 ?_)
    | (go_at_call 15; go_must (refine (HW.out _ hb0).mono ?_); rintro e w1 ⟨vw, rfl, hiw, hc⟩; obtain ⟨hb1, h1⟩ := step hb0 h0 hc)
    | (go_at_call 16; go_must (refine (HS.out _).mono ?_); rintro e w2 ⟨rfl, hc⟩; obtain ⟨hb2, h2⟩ := step hb1 h1 hc; have hiw2 := hiw.below hc)
    | (go_at_call 17; go_must (refine (HR.out _).mono ?_); rintro e w3 ⟨v, rfl, hi, hc⟩; obtain ⟨hb3, h3⟩ := step hb2 h2 hc; have hiw3 := hiw2.below hc; obtain ⟨p, c, rfl⟩ := hi.form; have hc14 : w3.cell? ⟨w.heap.size, 14, none⟩ = some (.int .i64 (F 14 : Nat)) := cell_irow h3 14 (by omega))
    | (go_at_call 18; go_must (refine (HN.out _).mono ?_); rintro e w4 ⟨rfl, rfl⟩)
    | (go_at_call 21; go_must (refine (HX.out _).mono ?_); rintro e w4 ⟨vr, rfl, hi4, hc⟩; obtain ⟨hb4, h4⟩ := step hb3 h3 hc; have hiw4 := (hiw3.below hc).reads)
    | (go_at_call 20; go_must (refine (same_true vw _ ys _ hiw4 hi4.reads hwl).mono ?_); rintro e w5 ⟨rfl, hc⟩; obtain ⟨hb5, h5⟩ := step hb4 h4 hc)
    | (go_at_call 19; go_must (refine (HL.out _ hb5).mono ?_); rintro e w6 ⟨rfl, hc⟩; obtain ⟨hb6, h6⟩ := step hb5 h5 hc))
  go_ret
  exact ⟨rfl, hb6⟩

/-- The figures of a row, as naturals. -/
theorem nat_row (S : Nat → Int) (hS : ∀ i, i < 16 → Fig (S i)) : ∃ F : Nat → Nat, (∀ i, i < 16 → F i < 16) ∧ irow 16 S = irow 16 (cst F) :=
  ⟨fun i => (S i).toNat, fun i hi => by have := hS i hi; unfold Fig at this; show (S i).toNat < 16; omega, irow_congr fun i hi => by have := hS i hi; unfold Fig at this; simp only [cst]; congr 1; omega⟩

theorem lawWays (S : Nat → Int) (line : Int) (w : World) (L : Base w) :
    Calls Tryd.prog 3 #[.agg (irow 16 S), .int .i64 line] w fun e w' => e = .returned (.bool true) ∧ Below w.heap.size w w' := by
  by_cases hS : ∀ i, i < 16 → Fig (S i)
  · by_cases hl : line < 0 ∨ 3 < line
    · exact lawWays_range S line hS hl w L
    · obtain ⟨F, hF, e⟩ := nat_row S hS
      obtain ⟨l, rfl⟩ : ∃ l : Nat, line = l := ⟨line.toNat, by omega⟩
      have hl4 : l < 4 := by omega
      rw [e]
      by_cases hch : Chart F
      · cases h14 : bitB (F 14) l with
        | false => exact lawWays_none F hF l hl4 hch h14 w L
        | true => exact lawWays_ok F hF l hl4 hch h14 w L
      · exact lawWays_wrong F hF l hl4 hch w L
  · exact lawWays_inv S line hS w L
end Go.Proofs.YtphnibllfpkkkaaDoor
/- The law ShieldDerives: the walk. -/
namespace Go.Proofs.YtphnibllfpkkkaaDoor
open Go Go.RowKit
set_option maxRecDepth 100000

/-- A block of the law's own after a call. -/
theorem stepO {B g : Nat} {w W W' : World} {o : Obj} (hb : Below B w W) (hB : B ≤ W.heap.size) (hg : W.heap[g]? = some o) (h : Below W.heap.size W W') :
    Below B w W' ∧ W'.heap[g]? = some o := ⟨hb.trans (h.mono hB), heap_below h hg (heap_lt hg)⟩
theorem eqlZero (b : Bool) (S : Nat → Int) (hb : b = true ↔ ∀ i, i < 16 → S i = 0) (w : World) : (binOp .eql 24 (.agg (irow 16 S)) (.agg #[.int .i64 0, .int .i64 0, .int .i64 0, .int .i64 0, .int .i64 0, .int .i64 0, .int .i64 0, .int .i64 0, .int .i64 0, .int .i64 0, .int .i64 0, .int .i64 0, .int .i64 0, .int .i64 0, .int .i64 0, .int .i64 0])).run Tryd.prog w = .ok (.bool b) w := by
  rw [zeros16]
  exact eqlShield S (fun _ => 0) b hb w

set_option maxHeartbeats 600000 in
theorem lawDerives_no (S : Nat → Int) (hS : ¬ ∀ i, i < 4 → Fig (S i)) (w : World) (L : Base w) :
    Calls Tryd.prog 4 #[.agg (irow 4 S)] w fun e w' => e = .returned (.bool true) ∧ Below w.heap.size w w' := by
  have h0 := heap_alloc_new w (.cells (irow 4 S) 37)
  have hb0 : Below w.heap.size w (w.alloc (.cells (irow 4 S) 37)) := (Below.refl _ _).alloc (Nat.le_refl _) _
  have HN := hid (fun W => Number_no S hS W)
  have HD := hid (fun W => Derive_no S hS W)
  have HL := hid (fun W (hb : Below w.heap.size w W) => known_b W (L.below hb))
  have heq := eqlZero true (fun _ => 0) (by simp)
  have hex : ∃ j, j < 4 ∧ ¬ Fig (S j) := by
    apply Classical.byContradiction
    intro h
    exact hS fun i hi => Classical.byContradiction fun hb => h ⟨i, hi, hb⟩
  obtain ⟨j, ⟨hj, hbad⟩, hl⟩ := exists_least hex
  have HV := hid (show ∀ i, i < j → Fig (S i) from fun i hi => Classical.byContradiction fun hb => absurd (hl i ⟨by omega, hb⟩) (by omega))
  have HB := hid hbad
  clear hS L hex hl hbad
  go_enter Tryd.func4, Tryd.ntmps4
  go_wp2_with (first
    | (refine ldrow arrMothers _ rfl rfl _ rfl _ _ h0 ?_) | (refine ldrow arrMothers _ rfl rfl _ rfl _ _ h1 ?_)
    | (go_at_call 22; go_must (refine (HN.out _).mono ?_); rintro e w1 ⟨rfl, hc⟩; obtain ⟨hb1, h1⟩ := stepO hb0 hb0.size h0 hc)
    | (go_at_call 23; go_must (refine (HD.out _).mono ?_); rintro e w2 ⟨rfl, hc⟩; obtain ⟨hb2, h2⟩ := stepO hb1 hb1.size h1 hc; have hz := heap_alloc_new w2 (.cells (irow 16 (fun _ => 0)) 24); have hbz : Below w2.heap.size w2 (w2.alloc (.cells (irow 16 (fun _ => 0)) 24)) := (Below.refl _ _).alloc (Nat.le_refl _) _)
    | (rw [zeros16]; go_must (refine strow arrShield _ _ rfl rfl _ (fun _ => 0) rfl rfl _ _ hz ?_); have hbs := below_setRow hbz (Nat.le_refl _) (irow 16 (fun _ => 0)); have hgs := setRow_heap _ _ _ (irow 16 (fun _ => 0)) _ _ hz; obtain ⟨hb3, h3⟩ := stepO hb2 hb2.size h2 hbs; clear hz hbz hbs; generalize World.setRow _ _ _ = ws at hgs hb3 h3 ⊢))
  clear h0 h1 h2 hb0 hb1 hb2
  go_loop [7] (fun i => ∃ n : Nat, n ≤ j ∧ i = .int .i64 n) (fun i => 4 - (intOf i).toNat)
  case atStart => exact ⟨0, by omega, rfl⟩
  case round =>
    obtain ⟨n, hn, rfl⟩ := hrel
    have hlt' : (n : Int) < 4 := by omega
    have hc := cell_irow h3 n (by omega)
    by_cases hlt : n < j
    · obtain ⟨f0, f1⟩ := HV.out n hlt
      have hcall := hid (fun W => rFigure_yes (S n) f0 f1 W)
      go_wp2_with (go_at_call 24; refine (hcall.out _).mono ?_; rintro e w' ⟨rfl, rfl⟩)
      go_round
      case rel => exact ⟨n + 1, by omega, by go_num⟩
      case measure => simp [intOf]; omega
    · obtain rfl : n = j := by omega
      have hcall := hid (fun W => rFigure_no (S n) HB.out W)
      go_wp2_with (first
        | (refine ldrowG arrShield _ rfl rfl _ rfl _ _ hgs ?_)
        | (go_at_call 24; refine (hcall.out _).mono ?_; rintro e w' ⟨rfl, rfl⟩)
        | (go_at_call 19; go_must (refine (HL.out _ hb3).mono ?_); rintro e w4 ⟨rfl, hc4⟩; obtain ⟨hb4, h4⟩ := stepO hb3 hb3.size h3 hc4))
      go_ret
      exact ⟨rfl, hb4⟩

set_option maxHeartbeats 1000000 in
theorem lawDerives_yes (M : Nat → Nat) (hM : ∀ i, i < 4 → M i < 16) (w : World) (L : Base w) :
    Calls Tryd.prog 4 #[.agg (irow 4 (cst M))] w fun e w' => e = .returned (.bool true) ∧ Below w.heap.size w w' := by
  have h0 := heap_alloc_new w (.cells (irow 4 (cst M)) 37)
  have hb0 : Below w.heap.size w (w.alloc (.cells (irow 4 (cst M)) 37)) := (Below.refl _ _).alloc (Nat.le_refl _) _
  have HN := hid (fun W => Number_yes M hM W)
  have HD := hid (fun W (hb : Below w.heap.size w W) => Derive_yes M hM W (L.below hb))
  have HR := hid (fun W => rDerive M hM W)
  have hnum : num M 4 < 65536 := num_lt M hM 4 (by omega)
  have HM := hid (fun W => rMothers (num M 4) hnum W)
  have HL := hid (fun W (hb : Below w.heap.size w W) => known_b W (L.below hb))
  have hq1 := eqlMothers (cst (mths (num M 4))) (cst M) true (by simp only [cst]; exact ⟨fun _ i hi => by rw [mths_num M hM i hi], fun _ => trivial⟩)
  have hq2 := eqlShield (cst (der M)) (cst (der M)) true (by simp)
  have HV := hid hM
  have g0 : (0 : Int) ≤ (num M 4 : Nat) := by omega
  have g1 : ((num M 4 : Nat) : Int) ≤ 65535 := by omega
  clear hM L hnum
  generalize num M 4 = N at *
  go_enter Tryd.func4, Tryd.ntmps4
  go_wp2_with (first
    | (refine ldrow arrMothers _ rfl rfl _ rfl _ _ h0 ?_) | (refine ldrow arrMothers _ rfl rfl _ rfl _ _ h1 ?_)
    | (go_at_call 22; go_must (refine (HN.out _).mono ?_); rintro e w1 ⟨rfl, hc⟩; obtain ⟨hb1, h1⟩ := stepO hb0 hb0.size h0 hc)
    | (go_at_call 23; go_must (refine (HD.out _ hb1).mono ?_); rintro e w2 ⟨rfl, hc⟩; obtain ⟨hb2, h2⟩ := stepO hb1 hb1.size h1 hc; have hz := heap_alloc_new w2 (.cells (irow 16 (fun _ => 0)) 24); have hbz : Below w2.heap.size w2 (w2.alloc (.cells (irow 16 (fun _ => 0)) 24)) := (Below.refl _ _).alloc (Nat.le_refl _) _)
    | (rw [zeros16]; go_must (refine strow arrShield _ _ rfl rfl _ _ rfl rfl _ _ hz ?_); have hbs := below_setRow hbz (Nat.le_refl _) (irow 16 (cst (der M))); have hgs := setRow_heap _ _ _ (irow 16 (cst (der M))) _ _ hz; obtain ⟨hb3, h3⟩ := stepO hb2 hb2.size h2 hbs; clear hz hbz hbs; generalize World.setRow _ _ _ = ws at hgs hb3 h3 ⊢))
  clear h0 h1 h2 hb0 hb1 hb2
  go_loop [7] (fun i => ∃ n : Nat, n ≤ 4 ∧ i = .int .i64 n) (fun i => 4 - (intOf i).toNat)
  case atStart => exact ⟨0, by omega, rfl⟩
  case round =>
    obtain ⟨n, hn, rfl⟩ := hrel
    by_cases hlt : n < 4
    · have hlt' : (n : Int) < 4 := by omega
      have hc := cell_irow h3 n (by omega)
      have hv := HV.out n hlt
      have hcall := hid (fun W => rFigure_yes (cst M n) (by simp) (by simp; omega) W)
      go_wp2_with (go_at_call 24; refine (hcall.out _).mono ?_; rintro e w' ⟨rfl, rfl⟩)
      go_round
      case rel => exact ⟨n + 1, by omega, by go_num⟩
      case measure => simp [intOf]; omega
    · have hge : ¬ (n : Int) < 4 := by omega
      have hls := heap_lt hgs
      have hlm := heap_lt h3
      have hu24 : Tryd.prog.underlying 24 = some (.array 16 22) := Tryd.underlying24
      have hi24 : (Tryd.prog.info? 24).map (·.size) = some (irow 16 (cst (der M))).toList.length := by rw [Array.length_toList, irow_size]; kernel_rfl
      have hlen : (irow 16 (cst (der M))).toList.length = 16 := by simp
      have hone := irow_one 16 (cst (der M))
      have K := hid (fun W (hb : Below ws.heap.size ws W) => (⟨range_irow (heap_below hb hgs hls), cell_irow (heap_below hb h3 hlm) 0 (by omega), cell_irow (heap_below hb h3 hlm) 1 (by omega), cell_irow (heap_below hb h3 hlm) 2 (by omega), cell_irow (heap_below hb h3 hlm) 3 (by omega), hb⟩ : W.rangeAt w2.heap.size 0 (irow 16 (cst (der M))).toList ∧ W.cell? ⟨w.heap.size, 0, none⟩ = some (.int .i64 ((M 0 : Nat) : Int)) ∧ W.cell? ⟨w.heap.size, 1, none⟩ = some (.int .i64 ((M 1 : Nat) : Int)) ∧ W.cell? ⟨w.heap.size, 2, none⟩ = some (.int .i64 ((M 2 : Nat) : Int)) ∧ W.cell? ⟨w.heap.size, 3, none⟩ = some (.int .i64 ((M 3 : Nat) : Int)) ∧ Below ws.heap.size ws W))
      have K0 := hid (K.out ws.drew (Below.refl _ _).drew)
      have KC := hid (fun W W2 (h2 : Below W.heap.size W W2) (hb : W.rangeAt w2.heap.size 0 (irow 16 (cst (der M))).toList ∧ W.cell? ⟨w.heap.size, 0, none⟩ = some (.int .i64 ((M 0 : Nat) : Int)) ∧ W.cell? ⟨w.heap.size, 1, none⟩ = some (.int .i64 ((M 1 : Nat) : Int)) ∧ W.cell? ⟨w.heap.size, 2, none⟩ = some (.int .i64 ((M 2 : Nat) : Int)) ∧ W.cell? ⟨w.heap.size, 3, none⟩ = some (.int .i64 ((M 3 : Nat) : Int)) ∧ Below ws.heap.size ws W) => K.out W2 (hb.2.2.2.2.2.trans (h2.mono hb.2.2.2.2.2.size)))
      have KL := hid (fun W (hb : W.rangeAt w2.heap.size 0 (irow 16 (cst (der M))).toList ∧ W.cell? ⟨w.heap.size, 0, none⟩ = some (.int .i64 ((M 0 : Nat) : Int)) ∧ W.cell? ⟨w.heap.size, 1, none⟩ = some (.int .i64 ((M 1 : Nat) : Int)) ∧ W.cell? ⟨w.heap.size, 2, none⟩ = some (.int .i64 ((M 2 : Nat) : Int)) ∧ W.cell? ⟨w.heap.size, 3, none⟩ = some (.int .i64 ((M 3 : Nat) : Int)) ∧ Below ws.heap.size ws W) => HL.out W (hb3.trans (hb.2.2.2.2.2.mono hb3.size)))
      clear K hgs h3
      rw [← lit4 M] at HR hq1
      go_wp2_with fail
      go_region_held3 (fun W => W.rangeAt w2.heap.size 0 (irow 16 (cst (der M))).toList ∧ W.cell? ⟨w.heap.size, 0, none⟩ = some (.int .i64 ((M 0 : Nat) : Int)) ∧ W.cell? ⟨w.heap.size, 1, none⟩ = some (.int .i64 ((M 1 : Nat) : Int)) ∧ W.cell? ⟨w.heap.size, 2, none⟩ = some (.int .i64 ((M 2 : Nat) : Int)) ∧ W.cell? ⟨w.heap.size, 3, none⟩ = some (.int .i64 ((M 3 : Nat) : Int)) ∧ Below ws.heap.size ws W)
        (first | exact K0.out | exact KC.out _ _ (by assumption) (by assumption))
        (first | (go_at_call 25; refine (HM.out _).mono ?_; rintro e w6 ⟨rfl, hb6⟩) | (go_at_call 26; refine (HR.out _).mono ?_; rintro e w7 ⟨rfl, hb7⟩) | (go_at_call 19; refine (KL.out _ (by assumption)).mono ?_; rintro e w8 ⟨rfl, hb8⟩))
      have hb9 := And.right (And.right (And.right (And.right (And.right (show w8.rangeAt w2.heap.size 0 (irow 16 (cst (der M))).toList ∧ w8.cell? ⟨w.heap.size, 0, none⟩ = some (.int .i64 ((M 0 : Nat) : Int)) ∧ w8.cell? ⟨w.heap.size, 1, none⟩ = some (.int .i64 ((M 1 : Nat) : Int)) ∧ w8.cell? ⟨w.heap.size, 2, none⟩ = some (.int .i64 ((M 2 : Nat) : Int)) ∧ w8.cell? ⟨w.heap.size, 3, none⟩ = some (.int .i64 ((M 3 : Nat) : Int)) ∧ Below ws.heap.size ws w8 by assumption)))))
      go_wp2_with fail
      go_ret
      exact ⟨rfl, hb3.trans (hb9.mono hb3.size)⟩

theorem lawDerives (S : Nat → Int) (w : World) (L : Base w) :
    Calls Tryd.prog 4 #[.agg (irow 4 S)] w fun e w' => e = .returned (.bool true) ∧ Below w.heap.size w w' := by
  by_cases hS : ∀ i, i < 4 → Fig (S i)
  · have e : irow 4 S = irow 4 (cst (fun i => (S i).toNat)) := irow_congr fun i hi => by have := hS i hi; unfold Fig at this; simp only [cst]; congr 1; omega
    rw [e]
    exact lawDerives_yes _ (fun i hi => by have := hS i hi; unfold Fig at this; show (S i).toNat < 16; omega) w L
  · exact lawDerives_no S hS w L
end Go.Proofs.YtphnibllfpkkkaaDoor
