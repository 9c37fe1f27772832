/- The law ShieldCounts: the walk. -/
import Derived.Test.YtphnibllfpkkkaaDoorG3
import Derived.Test.YtphnibllfpkkkaaDoorV11
namespace Go.Proofs.YtphnibllfpkkkaaDoor
open Go Go.RowKit
set_option maxRecDepth 100000

/-- Both tables. -/
structure Base2 (w : World) : Prop where
  a : Laid w
  b : LaidB w
theorem Base2.below {w w' : World} (h : Base2 w) (hb : Below w.heap.size w w') : Base2 w' := ⟨h.a.below hb, h.b.below hb⟩

set_option maxHeartbeats 1000000 in
theorem lawCounts_no (S : Nat → Int) (hS : ¬ ∀ i, i < 16 → FSet (S i)) (w : World) (L : Base2 w) :
    Calls Tryd.prog 11 #[.agg (irow 16 S)] w fun e w' => e = .returned (.bool true) ∧ Below w.heap.size w w' := by
  have h0 := heap_alloc_new w (.cells (irow 16 S) 78)
  have hb0 : Below w.heap.size w (w.alloc (.cells (irow 16 S) 78)) := (Below.refl _ _).alloc (Nat.le_refl _) _
  have HC := hid (fun W => Count_no S hS W)
  have HS := hid (fun W => rSets_no S hS W)
  have HL := hid (fun W (hb : Below w.heap.size w W) => known_b W (L.a.below hb))
  have heC := eqlZeroM true (fun _ => 0) (by simp)
  clear hS L
  go_enter Tryd.func11, Tryd.ntmps11
  go_wp2_with (first
    | (refine ldrow arrSets _ rfl rfl _ rfl _ _ h0 ?_)
    | (go_at_call 44; go_must (refine (HC.out _).mono ?_); rintro e w1 ⟨rfl, hc⟩; obtain ⟨hb1, h1⟩ := stepO hb0 hb0.size h0 hc; have hz := heap_alloc_new w1 (.cells (irow 4 (fun _ => 0)) 37); have hbz := hb1.alloc hb1.size (.cells (irow 4 (fun _ => 0)) 37); have h1z := (heap_alloc_old w1 (.cells (irow 4 (fun _ => 0)) 37) (heap_lt h1)).trans h1; have hne := heap_lt h1; clear h0 hb0 hc h1)
    | (rw [zeros4]; refine strow arrMothers _ _ rfl rfl _ (fun _ => 0) rfl rfl _ _ hz ?_; have hbs := below_setRow hbz hb1.size (irow 4 (fun _ => 0)); have hgs := setRow_heap _ _ _ (irow 4 (fun _ => 0)) _ _ hz; have h1s := (setRow_other _ w1.heap.size w.heap.size (irow 4 (fun _ => 0)) (by omega)).trans h1z; clear hz hbz h1z; generalize World.setRow _ _ _ = ws at hgs hbs h1s ⊢)
    | (refine ldrow arrSets _ rfl rfl _ rfl _ _ h1s ?_)
    | (go_at_call 45; go_must (refine (HS.out _).mono ?_); rintro e w2 ⟨rfl, hc⟩; obtain ⟨hb2, hg2⟩ := stepO hbs hbs.size hgs hc; clear hgs hbs h1s hc)
    | (refine ldrowG arrMothers _ rfl rfl _ rfl _ _ hg2 ?_)
    | (go_at_call 19; go_must (refine (HL.out _ hb2).mono ?_); rintro e w3 ⟨rfl, hc⟩; obtain ⟨hb3, h3⟩ := stepO hb2 hb2.size hg2 hc))
  go_ret
  exact ⟨rfl, hb3⟩

set_option maxHeartbeats 1000000 in
theorem lawCounts_yes (S : Nat → Nat) (hS : ∀ i, i < 16 → S i < 65536) (cc : Nat) (Fm : Nat → Int) (hcc : cntN S 65536 = cc) (hFm : fstN S 65536 = Fm) (w : World) (L : Base2 w) :
    Calls Tryd.prog 11 #[.agg (irow 16 (cst S))] w fun e w' => e = .returned (.bool true) ∧ Below w.heap.size w w' := by
  have h0 := heap_alloc_new w (.cells (irow 16 (cst S)) 78)
  have hb0 : Below w.heap.size w (w.alloc (.cells (irow 16 (cst S)) 78)) := (Below.refl _ _).alloc (Nat.le_refl _) _
  have HC := hid (fun W (hb : Below w.heap.size w W) => Count_yes S hS cc Fm hcc hFm W (L.a.below hb) (L.b.below hb))
  have HS := hid (fun W => rSets_yes (cst S) (fun i hi => ⟨by simp, by have := hS i hi; simp; omega⟩) W)
  have HR := hid (fun W => rCount S hS cc Fm hcc hFm W)
  have HL := hid (fun W (hb : Below w.heap.size w W) => known_b W (L.a.below hb))
  have heC := eqlMothers Fm Fm true (by simp)
  clear hS L hcc hFm
  go_enter Tryd.func11, Tryd.ntmps11
  go_wp2_with (first
    | (refine ldrow arrSets _ rfl rfl _ rfl _ _ h0 ?_)
    | (go_at_call 44; go_must (refine (HC.out _ hb0).mono ?_); rintro e w1 ⟨rfl, hc⟩; obtain ⟨hb1, h1⟩ := stepO hb0 hb0.size h0 hc; have hz := heap_alloc_new w1 (.cells (irow 4 (fun _ => 0)) 37); have hbz := hb1.alloc hb1.size (.cells (irow 4 (fun _ => 0)) 37); have h1z := (heap_alloc_old w1 (.cells (irow 4 (fun _ => 0)) 37) (heap_lt h1)).trans h1; have hne := heap_lt h1; clear h0 hb0 hc h1)
    | (rw [zeros4]; refine strow arrMothers _ _ rfl rfl _ _ rfl rfl _ _ hz ?_; have hbs := below_setRow hbz hb1.size (irow 4 Fm); have hgs := setRow_heap _ _ _ (irow 4 Fm) _ _ hz; have h1s := (setRow_other _ w1.heap.size w.heap.size (irow 4 Fm) (by omega)).trans h1z; clear hz hbz h1z; generalize World.setRow _ _ _ = ws at hgs hbs h1s ⊢)
    | (refine ldrow arrSets _ rfl rfl _ rfl _ _ h1s ?_)
    | (go_at_call 45; go_must (refine (HS.out _).mono ?_); rintro e w2 ⟨rfl, hc⟩; obtain ⟨hb2, hg2⟩ := stepO hbs hbs.size hgs hc; obtain ⟨_, h2⟩ := stepO hbs hbs.size h1s hc; clear hgs hbs h1s hc)
    | (refine ldrow arrSets _ rfl rfl _ rfl _ _ h2 ?_)
    | (go_at_call 46; go_must (refine (HR.out _).mono ?_); rintro e w3 ⟨rfl, hc⟩; obtain ⟨hb3, hg3⟩ := stepO hb2 hb2.size hg2 hc; have hz3 := heap_alloc_new w3 (.cells (irow 4 (fun _ => 0)) 37); have hbz3 := hb3.alloc hb3.size (.cells (irow 4 (fun _ => 0)) 37); have hg3z := (heap_alloc_old w3 (.cells (irow 4 (fun _ => 0)) 37) (heap_lt hg3)).trans hg3; have hne3 := heap_lt hg3; clear hc hg2 hb2 h2 hg3)
    | (rw [zeros4]; refine strow arrMothers _ _ rfl rfl _ _ rfl rfl _ _ hz3 ?_; have hb4 := below_setRow hbz3 hb3.size (irow 4 Fm); have hg4 := setRow_heap _ _ _ (irow 4 Fm) _ _ hz3; have hg4o := (setRow_other _ w3.heap.size w1.heap.size (irow 4 Fm) (by omega)).trans hg3z; clear hz3 hbz3 hg3z; generalize World.setRow _ _ _ = wt at hg4 hb4 hg4o ⊢)
    | (refine ldrowG arrMothers _ rfl rfl _ rfl _ _ hg4o ?_)
    | (refine ldrowG arrMothers _ rfl rfl _ rfl _ _ hg4 ?_)
    | (go_at_call 19; go_must (refine (HL.out _ hb4).mono ?_); rintro e w5 ⟨rfl, hc⟩; obtain ⟨hb5, h5⟩ := stepO hb4 hb4.size hg4 hc))
  go_ret
  exact ⟨rfl, hb5⟩

theorem lawCounts (S : Nat → Int) (w : World) (L : Base2 w) :
    Calls Tryd.prog 11 #[.agg (irow 16 S)] w fun e w' => e = .returned (.bool true) ∧ Below w.heap.size w w' := by
  by_cases hS : ∀ i, i < 16 → FSet (S i)
  · have e : irow 16 S = irow 16 (cst (fun i => (S i).toNat)) := irow_congr fun i hi => by have := hS i hi; unfold FSet at this; simp only [cst]; omega
    rw [e]
    exact lawCounts_yes _ (fun i hi => by have := hS i hi; unfold FSet at this; show (S i).toNat < 65536; omega) _ _ rfl rfl w L
  · exact lawCounts_no S hS w L
end Go.Proofs.YtphnibllfpkkkaaDoor
