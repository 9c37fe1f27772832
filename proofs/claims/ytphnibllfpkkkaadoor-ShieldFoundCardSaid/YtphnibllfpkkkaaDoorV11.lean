/- The law ShieldCasts: the walk. -/
import Derived.Test.YtphnibllfpkkkaaDoorV3
import Derived.Test.YtphnibllfpkkkaaDoorW13
import Derived.Test.YtphnibllfpkkkaaDoorSm
import Derived.Deep.DeepMust
namespace Go.Proofs.YtphnibllfpkkkaaDoor
open Go Go.RowKit
set_option maxRecDepth 100000

theorem lawCasts_long (v : Value) (xs : List Int) (num : Int) (w : World) (hr : ReadsA w v xs) (hl : 40 < xs.length) (L : Base w) :
    Calls Tryd.prog 7 #[v, .int .i64 num] w fun e w' => e = .returned (.bool true) ∧ Below w.heap.size w w' := by
  obtain ⟨p, c, rfl⟩ := hr.form
  have HL := hid (known_b _ L)
  have hl' : (40 : Int) < xs.length := by omega
  clear L hr
  go_enter Tryd.func7, Tryd.ntmps7
  go_wp2_with (go_at_call 19; refine HL.out.mono ?_; rintro e w6 ⟨rfl, hc6⟩)
  go_ret
  exact ⟨rfl, hc6⟩

/-- What the call to Mothers gives. -/
structure Moth (num : Int) (T : Nat → Int) (me : Int) : Prop where
  call : ∀ W : World, Calls Tryd.prog 27 #[.int .i64 num] W fun e w' => e = .returned (.tuple #[.agg (irow 4 T), .int .i64 me]) ∧ Below W.heap.size W w'
  kind : ((num < 0 ∨ 65535 < num) ∧ (∀ i, i < 4 → T i = 0) ∧ me = 3) ∨ (0 ≤ num ∧ num ≤ 65535 ∧ me = 0 ∧ ∀ W : World, Calls Tryd.prog 25 #[.int .i64 num] W fun e w' => e = .returned (.agg (irow 4 T)) ∧ Below W.heap.size W w')
theorem moth (num : Int) : ∃ T me, Moth num T me := by
  by_cases h : num < 0 ∨ 65535 < num
  · exact ⟨_, _, fun W => Mothers_no num h W, .inl ⟨h, fun _ _ => rfl, rfl⟩⟩
  · obtain ⟨n, rfl⟩ : ∃ n : Nat, num = n := ⟨num.toNat, by omega⟩
    exact ⟨_, _, fun W => Mothers_yes n (by omega) W, .inr ⟨by omega, by omega, rfl, fun W => rMothers n (by omega) W⟩⟩
theorem eqlZeroM (b : Bool) (S : Nat → Int) (hb : b = true ↔ ∀ i, i < 4 → S i = 0) (w : World) : (binOp .eql 37 (.agg (irow 4 S)) (.agg #[.int .i64 0, .int .i64 0, .int .i64 0, .int .i64 0])).run Tryd.prog w = .ok (.bool b) w := by
  rw [zeros4]
  exact eqlMothers S (fun _ => 0) b hb w
theorem neqZeroM (b : Bool) (S : Nat → Int) (hb : b = true ↔ ∀ i, i < 4 → S i = 0) (w : World) : (binOp .neq 37 (.agg (irow 4 S)) (.agg #[.int .i64 0, .int .i64 0, .int .i64 0, .int .i64 0])).run Tryd.prog w = .ok (.bool (!b)) w := by
  rw [zeros4]
  exact neqMothers S (fun _ => 0) b hb w

/-- The mothers of rows, the first n of them laid. -/
def wantTo (f : Nat → Int) (n : Nat) : Nat → Nat := fun j => if j < n then ofT (fun k => 2 - (f (4 * j + k)).toNat % 2) 4 else 0
theorem want_step (f : Nat → Int) (n : Nat) : irow 4 (upd (cst (wantTo f n)) n ((ofT (fun k => 2 - (f (4 * n + k)).toNat % 2) 4 : Nat) : Int)) = irow 4 (cst (wantTo f (n + 1))) := by
  rw [upd_cst]
  apply irow_congr
  intro j hj
  simp only [cst, upN, wantTo]
  congr 1
  by_cases e : j = n
  · subst e; rw [if_pos rfl, if_pos (by omega)]
  · rw [if_neg e]
    by_cases h : j < n
    · rw [if_pos h, if_pos (by omega)]
    · rw [if_neg h, if_neg (by omega)]
/-- The marks of four rows, the first m of them laid. -/
def mkTo (f : Nat → Int) (n m : Nat) : Nat → Int := fun j => if j < m then 2 - f (4 * n + j) % 2 else 0
theorem mk_step (f : Nat → Int) (n m : Nat) : irow 4 (upd (mkTo f n m) m (2 - f (4 * n + m) % 2)) = irow 4 (mkTo f n (m + 1)) := by
  apply irow_congr
  intro j hj
  simp only [upd, mkTo]
  by_cases e : j = m
  · subst e; rw [if_pos rfl, if_pos (by omega)]
  · rw [if_neg e]
    by_cases h : j < m
    · rw [if_pos h, if_pos (by omega)]
    · rw [if_neg h, if_neg (by omega)]
theorem mk_full (f : Nat → Int) (n : Nat) (h : ∀ k, k < 4 → Row (f (4 * n + k))) : irow 4 (mkTo f n 4) = irow 4 (cst (fun k => 2 - (f (4 * n + k)).toNat % 2)) := irow_congr fun j hj => by
  have := h j hj
  unfold Row at this
  simp only [mkTo, cst]
  rw [if_pos hj]
  omega

set_option maxHeartbeats 4000000 in
theorem lawCasts_neg_long (v : Value) (xs : List Int) (num : Int) (w : World) (hr : ReadsA w v xs) (hl : xs.length ≤ 40) (C : Nat → Int) (hcast : ∀ (W : World) (u : Value), Ints W 0 u xs → Calls Tryd.prog 37 #[u] W fun e w' => e = .returned (.tuple #[.agg (irow 4 C), .int .i64 5]) ∧ Below W.heap.size W w')
    (T : Nat → Int) (hm : ∀ W : World, Calls Tryd.prog 27 #[.int .i64 num] W fun e w' => e = .returned (.tuple #[.agg (irow 4 T), .int .i64 3]) ∧ Below W.heap.size W w')
    (hn : num < 0) (hT : ∀ i, i < 4 → T i = 0) (h16 : xs.length ≠ 16) (hC : ∀ i, i < 4 → C i = 0) (L : Base w) :
    Calls Tryd.prog 7 #[v, .int .i64 num] w fun e w' => e = .returned (.bool true) ∧ Below w.heap.size w w' := by
  have hi0 := Ints.made w w.heap.size (Nat.le_refl _)
  have hb0 : Below w.heap.size w (w.alloc (.cells #[] 3)) := (Below.refl _ _).alloc (Nat.le_refl _) _
  have hr0 := hr.below hb0
  have HR := hid hr
  obtain ⟨p, c, rfl⟩ := hr.form
  have a16 : (((xs.length : Nat) : Int) != 16) = true := by simp; omega
  have heC := eqlZeroM true C (by simpa using hC)
  have hl' : ¬ (40 : Int) < xs.length := by omega
  clear h16 hC
  have HC := hid hcast
  have HM := hid hm
  have HL := hid (fun W (hb : Below w.heap.size w W) => known_b W (L.below hb))
  have hB := hb0.size
  have hqT := neqZeroM true T (by simpa using hT)
  clear hT
  clear hcast hm L hr
  go_enter Tryd.func7, Tryd.ntmps7
  go_wp2_with (first
    | (at_builtin; refine wp_append_reads rfl _ _ rfl w.heap.size _ [] rfl hi0 _ xs rfl hr0 (by simp; omega) hB ?_; intro v1 w1 hi1 hg1; have hb1 := grown_below hb0 hg1 hi0 (Nat.le_refl _) hB; rw [List.nil_append] at hi1; clear hi0 hr0 hg1)
    | (go_at_call 37; refine (HC.out _ _ (hi1.mono (Nat.zero_le _))).mono ?_; rintro e w2 ⟨rfl, hc⟩; have hb2 := hb1.trans (hc.mono hb1.size); have hi2 := hi1.below hc; have hz := heap_alloc_new w2 (.cells (irow 4 (fun _ => 0)) 37); have hbz := hb2.alloc hb2.size (.cells (irow 4 (fun _ => 0)) 37); have his := hi2.below (below_setRow ((Below.refl w2.heap.size w2).alloc (Nat.le_refl _) (.cells (irow 4 (fun _ => 0)) 37)) (Nat.le_refl _) (irow 4 C)); clear hc hi1 hi2)
    | (rw [zeros4]; refine strow arrMothers _ _ rfl rfl _ _ rfl rfl _ _ hz ?_; have hbs := below_setRow hbz hb2.size (irow 4 C); have hgs := setRow_heap _ _ _ (irow 4 C) _ _ hz; clear hz hbz; generalize World.setRow _ _ _ = ws at his hgs hbs ⊢)
    | (go_at_call 27; refine (HM.out _).mono ?_; rintro e w3 ⟨rfl, hc⟩; obtain ⟨hb3, hg3⟩ := stepO hbs hbs.size hgs hc; have hi3 := his.below hc; have hz3 := heap_alloc_new w3 (.cells (irow 4 (fun _ => 0)) 37); have hbz3 := hb3.alloc hb3.size (.cells (irow 4 (fun _ => 0)) 37); have hbo := below_setRow ((Below.refl w3.heap.size w3).alloc (Nat.le_refl _) (.cells (irow 4 (fun _ => 0)) 37)) (Nat.le_refl _) (irow 4 T); have hit := hi3.below hbo; have hgc := heap_below hbo hg3 (heap_lt hg3); clear hc hgs hbs his hi3 hbo)
    | (rw [zeros4]; refine strow arrMothers _ _ rfl rfl _ _ rfl rfl _ _ hz3 ?_; have hbt := below_setRow hbz3 hb3.size (irow 4 T); have hgt := setRow_heap _ _ _ (irow 4 T) _ _ hz3; clear hz3 hbz3; generalize World.setRow _ _ _ = wt at hit hgt hgc hbt ⊢)
    | (go_at_call 20; refine (same_true _ _ xs _ hit.reads (HR.out.below hbt).reads (by omega)).mono ?_; rintro e w4 ⟨rfl, hc⟩; obtain ⟨hb4, hg4⟩ := stepO hbt hbt.size hgt hc; obtain ⟨_, hc4⟩ := stepO hbt hbt.size hgc hc; clear hc hgt hgc hit)
    | (refine ldrow arrMothers _ rfl rfl _ rfl _ _ hg4 ?_)
    | (refine ldrow arrMothers _ rfl rfl _ rfl _ _ hc4 ?_)
    | (go_at_call 19; refine (HL.out _ hb4).mono ?_; rintro e w8 ⟨rfl, hc8⟩; obtain ⟨hb8, h8⟩ := stepO hb4 hb4.size hc4 hc8))
  go_ret
  exact ⟨rfl, hb8⟩

set_option maxHeartbeats 4000000 in
theorem lawCasts_big_long (v : Value) (xs : List Int) (num : Int) (w : World) (hr : ReadsA w v xs) (hl : xs.length ≤ 40) (C : Nat → Int) (hcast : ∀ (W : World) (u : Value), Ints W 0 u xs → Calls Tryd.prog 37 #[u] W fun e w' => e = .returned (.tuple #[.agg (irow 4 C), .int .i64 5]) ∧ Below W.heap.size W w')
    (T : Nat → Int) (hm : ∀ W : World, Calls Tryd.prog 27 #[.int .i64 num] W fun e w' => e = .returned (.tuple #[.agg (irow 4 T), .int .i64 3]) ∧ Below W.heap.size W w')
    (hn0 : ¬ num < 0) (hn : 65535 < num) (hT : ∀ i, i < 4 → T i = 0) (h16 : xs.length ≠ 16) (hC : ∀ i, i < 4 → C i = 0) (L : Base w) :
    Calls Tryd.prog 7 #[v, .int .i64 num] w fun e w' => e = .returned (.bool true) ∧ Below w.heap.size w w' := by
  have hi0 := Ints.made w w.heap.size (Nat.le_refl _)
  have hb0 : Below w.heap.size w (w.alloc (.cells #[] 3)) := (Below.refl _ _).alloc (Nat.le_refl _) _
  have hr0 := hr.below hb0
  have HR := hid hr
  obtain ⟨p, c, rfl⟩ := hr.form
  have a16 : (((xs.length : Nat) : Int) != 16) = true := by simp; omega
  have heC := eqlZeroM true C (by simpa using hC)
  have hl' : ¬ (40 : Int) < xs.length := by omega
  clear h16 hC
  have HC := hid hcast
  have HM := hid hm
  have HL := hid (fun W (hb : Below w.heap.size w W) => known_b W (L.below hb))
  have hB := hb0.size
  have hqT := neqZeroM true T (by simpa using hT)
  clear hT
  clear hcast hm L hr
  go_enter Tryd.func7, Tryd.ntmps7
  go_wp2_with (first
    | (at_builtin; refine wp_append_reads rfl _ _ rfl w.heap.size _ [] rfl hi0 _ xs rfl hr0 (by simp; omega) hB ?_; intro v1 w1 hi1 hg1; have hb1 := grown_below hb0 hg1 hi0 (Nat.le_refl _) hB; rw [List.nil_append] at hi1; clear hi0 hr0 hg1)
    | (go_at_call 37; refine (HC.out _ _ (hi1.mono (Nat.zero_le _))).mono ?_; rintro e w2 ⟨rfl, hc⟩; have hb2 := hb1.trans (hc.mono hb1.size); have hi2 := hi1.below hc; have hz := heap_alloc_new w2 (.cells (irow 4 (fun _ => 0)) 37); have hbz := hb2.alloc hb2.size (.cells (irow 4 (fun _ => 0)) 37); have his := hi2.below (below_setRow ((Below.refl w2.heap.size w2).alloc (Nat.le_refl _) (.cells (irow 4 (fun _ => 0)) 37)) (Nat.le_refl _) (irow 4 C)); clear hc hi1 hi2)
    | (rw [zeros4]; refine strow arrMothers _ _ rfl rfl _ _ rfl rfl _ _ hz ?_; have hbs := below_setRow hbz hb2.size (irow 4 C); have hgs := setRow_heap _ _ _ (irow 4 C) _ _ hz; clear hz hbz; generalize World.setRow _ _ _ = ws at his hgs hbs ⊢)
    | (go_at_call 27; refine (HM.out _).mono ?_; rintro e w3 ⟨rfl, hc⟩; obtain ⟨hb3, hg3⟩ := stepO hbs hbs.size hgs hc; have hi3 := his.below hc; have hz3 := heap_alloc_new w3 (.cells (irow 4 (fun _ => 0)) 37); have hbz3 := hb3.alloc hb3.size (.cells (irow 4 (fun _ => 0)) 37); have hbo := below_setRow ((Below.refl w3.heap.size w3).alloc (Nat.le_refl _) (.cells (irow 4 (fun _ => 0)) 37)) (Nat.le_refl _) (irow 4 T); have hit := hi3.below hbo; have hgc := heap_below hbo hg3 (heap_lt hg3); clear hc hgs hbs his hi3 hbo)
    | (rw [zeros4]; refine strow arrMothers _ _ rfl rfl _ _ rfl rfl _ _ hz3 ?_; have hbt := below_setRow hbz3 hb3.size (irow 4 T); have hgt := setRow_heap _ _ _ (irow 4 T) _ _ hz3; clear hz3 hbz3; generalize World.setRow _ _ _ = wt at hit hgt hgc hbt ⊢)
    | (go_at_call 20; refine (same_true _ _ xs _ hit.reads (HR.out.below hbt).reads (by omega)).mono ?_; rintro e w4 ⟨rfl, hc⟩; obtain ⟨hb4, hg4⟩ := stepO hbt hbt.size hgt hc; obtain ⟨_, hc4⟩ := stepO hbt hbt.size hgc hc; clear hc hgt hgc hit)
    | (refine ldrow arrMothers _ rfl rfl _ rfl _ _ hg4 ?_)
    | (refine ldrow arrMothers _ rfl rfl _ rfl _ _ hc4 ?_)
    | (go_at_call 19; refine (HL.out _ hb4).mono ?_; rintro e w8 ⟨rfl, hc8⟩; obtain ⟨hb8, h8⟩ := stepO hb4 hb4.size hc4 hc8))
  go_ret
  exact ⟨rfl, hb8⟩

set_option maxHeartbeats 4000000 in
theorem lawCasts_ok_long (v : Value) (xs : List Int) (num : Int) (w : World) (hr : ReadsA w v xs) (hl : xs.length ≤ 40) (C : Nat → Int) (hcast : ∀ (W : World) (u : Value), Ints W 0 u xs → Calls Tryd.prog 37 #[u] W fun e w' => e = .returned (.tuple #[.agg (irow 4 C), .int .i64 5]) ∧ Below W.heap.size W w')
    (T : Nat → Int) (hm : ∀ W : World, Calls Tryd.prog 27 #[.int .i64 num] W fun e w' => e = .returned (.tuple #[.agg (irow 4 T), .int .i64 0]) ∧ Below W.heap.size W w')
    (hn0 : ¬ num < 0) (hn : ¬ 65535 < num) (hrm : ∀ W : World, Calls Tryd.prog 25 #[.int .i64 num] W fun e w' => e = .returned (.agg (irow 4 T)) ∧ Below W.heap.size W w') (h16 : xs.length ≠ 16) (hC : ∀ i, i < 4 → C i = 0) (L : Base w) :
    Calls Tryd.prog 7 #[v, .int .i64 num] w fun e w' => e = .returned (.bool true) ∧ Below w.heap.size w w' := by
  have hi0 := Ints.made w w.heap.size (Nat.le_refl _)
  have hb0 : Below w.heap.size w (w.alloc (.cells #[] 3)) := (Below.refl _ _).alloc (Nat.le_refl _) _
  have hr0 := hr.below hb0
  have HR := hid hr
  obtain ⟨p, c, rfl⟩ := hr.form
  have a16 : (((xs.length : Nat) : Int) != 16) = true := by simp; omega
  have heC := eqlZeroM true C (by simpa using hC)
  have hl' : ¬ (40 : Int) < xs.length := by omega
  clear h16 hC
  have HC := hid hcast
  have HM := hid hm
  have HL := hid (fun W (hb : Below w.heap.size w W) => known_b W (L.below hb))
  have hB := hb0.size
  have hqT := neqMothers T T true (by simp)
  have HRM := hid hrm
  clear hrm
  clear hcast hm L hr
  go_enter Tryd.func7, Tryd.ntmps7
  go_wp2_with (first
    | (at_builtin; refine wp_append_reads rfl _ _ rfl w.heap.size _ [] rfl hi0 _ xs rfl hr0 (by simp; omega) hB ?_; intro v1 w1 hi1 hg1; have hb1 := grown_below hb0 hg1 hi0 (Nat.le_refl _) hB; rw [List.nil_append] at hi1; clear hi0 hr0 hg1)
    | (go_at_call 37; refine (HC.out _ _ (hi1.mono (Nat.zero_le _))).mono ?_; rintro e w2 ⟨rfl, hc⟩; have hb2 := hb1.trans (hc.mono hb1.size); have hi2 := hi1.below hc; have hz := heap_alloc_new w2 (.cells (irow 4 (fun _ => 0)) 37); have hbz := hb2.alloc hb2.size (.cells (irow 4 (fun _ => 0)) 37); have his := hi2.below (below_setRow ((Below.refl w2.heap.size w2).alloc (Nat.le_refl _) (.cells (irow 4 (fun _ => 0)) 37)) (Nat.le_refl _) (irow 4 C)); clear hc hi1 hi2)
    | (rw [zeros4]; refine strow arrMothers _ _ rfl rfl _ _ rfl rfl _ _ hz ?_; have hbs := below_setRow hbz hb2.size (irow 4 C); have hgs := setRow_heap _ _ _ (irow 4 C) _ _ hz; clear hz hbz; generalize World.setRow _ _ _ = ws at his hgs hbs ⊢)
    | (go_at_call 27; refine (HM.out _).mono ?_; rintro e w3 ⟨rfl, hc⟩; obtain ⟨hb3, hg3⟩ := stepO hbs hbs.size hgs hc; have hi3 := his.below hc; have hz3 := heap_alloc_new w3 (.cells (irow 4 (fun _ => 0)) 37); have hbz3 := hb3.alloc hb3.size (.cells (irow 4 (fun _ => 0)) 37); have hbo := below_setRow ((Below.refl w3.heap.size w3).alloc (Nat.le_refl _) (.cells (irow 4 (fun _ => 0)) 37)) (Nat.le_refl _) (irow 4 T); have hit := hi3.below hbo; have hgc := heap_below hbo hg3 (heap_lt hg3); clear hc hgs hbs his hi3 hbo)
    | (rw [zeros4]; refine strow arrMothers _ _ rfl rfl _ _ rfl rfl _ _ hz3 ?_; have hbt := below_setRow hbz3 hb3.size (irow 4 T); have hgt := setRow_heap _ _ _ (irow 4 T) _ _ hz3; clear hz3 hbz3; generalize World.setRow _ _ _ = wt at hit hgt hgc hbt ⊢)
    | (go_at_call 20; refine (same_true _ _ xs _ hit.reads (HR.out.below hbt).reads (by omega)).mono ?_; rintro e w4 ⟨rfl, hc⟩; obtain ⟨hb4, hg4⟩ := stepO hbt hbt.size hgt hc; obtain ⟨_, hc4⟩ := stepO hbt hbt.size hgc hc; clear hc hgt hgc hit))
  have hls := heap_lt hg4
  have K := hid (fun W (hb : Below w4.heap.size w4 W) => (⟨cell_irow (heap_below hb hg4 hls) 0 (by omega), cell_irow (heap_below hb hg4 hls) 1 (by omega), cell_irow (heap_below hb hg4 hls) 2 (by omega), cell_irow (heap_below hb hg4 hls) 3 (by omega), hb⟩ : W.cell? ⟨w3.heap.size, 0, none⟩ = some (.int .i64 (T 0)) ∧ W.cell? ⟨w3.heap.size, 1, none⟩ = some (.int .i64 (T 1)) ∧ W.cell? ⟨w3.heap.size, 2, none⟩ = some (.int .i64 (T 2)) ∧ W.cell? ⟨w3.heap.size, 3, none⟩ = some (.int .i64 (T 3)) ∧ Below w4.heap.size w4 W))
  have K0 := hid (K.out w4.drew (Below.refl _ _).drew)
  have KC := hid (fun W W2 (h2 : Below W.heap.size W W2) (hb : W.cell? ⟨w3.heap.size, 0, none⟩ = some (.int .i64 (T 0)) ∧ W.cell? ⟨w3.heap.size, 1, none⟩ = some (.int .i64 (T 1)) ∧ W.cell? ⟨w3.heap.size, 2, none⟩ = some (.int .i64 (T 2)) ∧ W.cell? ⟨w3.heap.size, 3, none⟩ = some (.int .i64 (T 3)) ∧ Below w4.heap.size w4 W) => K.out W2 (hb.2.2.2.2.trans (h2.mono hb.2.2.2.2.size)))
  have HC4 := hid hc4
  clear K hg4 hc4
  rw [show irow 4 T = #[.int .i64 (T 0), .int .i64 (T 1), .int .i64 (T 2), .int .i64 (T 3)] from rfl] at HRM hqT
  go_region_held3 (fun W => W.cell? ⟨w3.heap.size, 0, none⟩ = some (.int .i64 (T 0)) ∧ W.cell? ⟨w3.heap.size, 1, none⟩ = some (.int .i64 (T 1)) ∧ W.cell? ⟨w3.heap.size, 2, none⟩ = some (.int .i64 (T 2)) ∧ W.cell? ⟨w3.heap.size, 3, none⟩ = some (.int .i64 (T 3)) ∧ Below w4.heap.size w4 W)
    (first | exact K0.out | exact KC.out _ _ (by assumption) (by assumption))
    (first | (go_at_call 25; refine (HRM.out _).mono ?_; rintro e w5 ⟨rfl, hb5⟩) | fail)
  have hb9 := And.right (And.right (And.right (And.right (show w5.cell? ⟨w3.heap.size, 0, none⟩ = some (.int .i64 (T 0)) ∧ w5.cell? ⟨w3.heap.size, 1, none⟩ = some (.int .i64 (T 1)) ∧ w5.cell? ⟨w3.heap.size, 2, none⟩ = some (.int .i64 (T 2)) ∧ w5.cell? ⟨w3.heap.size, 3, none⟩ = some (.int .i64 (T 3)) ∧ Below w4.heap.size w4 w5 by assumption))))
  obtain ⟨hb6, hc6⟩ := stepO hb4 hb4.size HC4.out hb9
  clear K0 KC hls hb9
  go_wp2_with (first
    | (refine ldrow arrMothers _ rfl rfl _ rfl _ _ hc6 ?_)
    | (go_at_call 19; refine (HL.out _ hb6).mono ?_; rintro e w8 ⟨rfl, hc8⟩; obtain ⟨hb8, h8⟩ := stepO hb6 hb6.size hc6 hc8))
  go_ret
  exact ⟨rfl, hb8⟩

set_option maxHeartbeats 4000000 in
theorem lawCasts_neg_loops (g o c : Nat) (xs : List Int) (num : Int) (w : World) (hr : ReadsA w (.slice (some ⟨g, o, none⟩) 16 c) xs) (hl : xs.length ≤ 40) (C : Nat → Int) (ce : Int) (hcast : ∀ (W : World) (u : Value), Ints W 0 u xs → Calls Tryd.prog 37 #[u] W fun e w' => e = .returned (.tuple #[.agg (irow 4 C), .int .i64 ce]) ∧ Below W.heap.size W w')
    (T : Nat → Int) (hm : ∀ W : World, Calls Tryd.prog 27 #[.int .i64 num] W fun e w' => e = .returned (.tuple #[.agg (irow 4 T), .int .i64 3]) ∧ Below W.heap.size W w')
    (hn : num < 0) (hT : ∀ i, i < 4 → T i = 0) (hgl : g < w.heap.size) (f : Nat → Int) (hcell : ∀ i, i < 16 → w.cell? ⟨g, o + i, none⟩ = some (.int .i64 (f i))) (J : Nat) (hJ : J ≤ 16) (hgood : ∀ i, i < J → Row (f i))
    (hkind : (J < 16 ∧ ¬ Row (f J) ∧ (∀ i, i < 4 → C i = 0) ∧ ce = 3) ∨ (J = 16 ∧ ce = 0 ∧ ∀ i, i < 4 → C i = ((ofT (fun k => 2 - (f (4 * i + k)).toNat % 2) 4 : Nat) : Int))) (L : Base w) :
    Calls Tryd.prog 7 #[(.slice (some ⟨g, o, none⟩) 16 c), .int .i64 num] w fun e w' => e = .returned (.bool true) ∧ Below w.heap.size w w' := by
  have hi0 := Ints.made w w.heap.size (Nat.le_refl _)
  have hb0 : Below w.heap.size w (w.alloc (.cells #[] 3)) := (Below.refl _ _).alloc (Nat.le_refl _) _
  have hr0 := hr.below hb0
  have HR := hid hr
  have HG := hid hgood
  have HCell := hid hcell
  have HKind := hid hkind
  clear hgood hcell hkind
  have HC := hid hcast
  have HM := hid hm
  have HL := hid (fun W (hb : Below w.heap.size w W) => known_b W (L.below hb))
  have hB := hb0.size
  have hqT := neqZeroM true T (by simpa using hT)
  clear hT
  clear hcast hm L hr
  go_enter Tryd.func7, Tryd.ntmps7
  go_wp2_with (first
    | (at_builtin; refine wp_append_reads rfl _ _ rfl w.heap.size _ [] rfl hi0 _ xs rfl hr0 (by simp; omega) hB ?_; intro v1 w1 hi1 hg1; have hb1 := grown_below hb0 hg1 hi0 (Nat.le_refl _) hB; rw [List.nil_append] at hi1; clear hi0 hr0 hg1)
    | (go_at_call 37; refine (HC.out _ _ (hi1.mono (Nat.zero_le _))).mono ?_; rintro e w2 ⟨rfl, hc⟩; have hb2 := hb1.trans (hc.mono hb1.size); have hi2 := hi1.below hc; have hz := heap_alloc_new w2 (.cells (irow 4 (fun _ => 0)) 37); have hbz := hb2.alloc hb2.size (.cells (irow 4 (fun _ => 0)) 37); have his := hi2.below (below_setRow ((Below.refl w2.heap.size w2).alloc (Nat.le_refl _) (.cells (irow 4 (fun _ => 0)) 37)) (Nat.le_refl _) (irow 4 C)); clear hc hi1 hi2)
    | (rw [zeros4]; refine strow arrMothers _ _ rfl rfl _ _ rfl rfl _ _ hz ?_; have hbs := below_setRow hbz hb2.size (irow 4 C); have hgs := setRow_heap _ _ _ (irow 4 C) _ _ hz; clear hz hbz; generalize World.setRow _ _ _ = ws at his hgs hbs ⊢)
    | (go_at_call 27; refine (HM.out _).mono ?_; rintro e w3 ⟨rfl, hc⟩; obtain ⟨hb3, hg3⟩ := stepO hbs hbs.size hgs hc; have hi3 := his.below hc; have hz3 := heap_alloc_new w3 (.cells (irow 4 (fun _ => 0)) 37); have hbz3 := hb3.alloc hb3.size (.cells (irow 4 (fun _ => 0)) 37); have hbo := below_setRow ((Below.refl w3.heap.size w3).alloc (Nat.le_refl _) (.cells (irow 4 (fun _ => 0)) 37)) (Nat.le_refl _) (irow 4 T); have hit := hi3.below hbo; have hgc := heap_below hbo hg3 (heap_lt hg3); clear hc hgs hbs his hi3 hbo)
    | (rw [zeros4]; refine strow arrMothers _ _ rfl rfl _ _ rfl rfl _ _ hz3 ?_; have hbt := below_setRow hbz3 hb3.size (irow 4 T); have hgt := setRow_heap _ _ _ (irow 4 T) _ _ hz3; clear hz3 hbz3; generalize World.setRow _ _ _ = wt at hit hgt hgc hbt ⊢)
    | (go_at_call 20; refine (same_true _ _ xs _ hit.reads (HR.out.below hbt).reads (by omega)).mono ?_; rintro e w4 ⟨rfl, hc⟩; obtain ⟨hb4, hg4⟩ := stepO hbt hbt.size hgt hc; obtain ⟨_, hc4⟩ := stepO hbt hbt.size hgc hc; clear hc hgt hgc hit)
    | (refine ldrow arrMothers _ rfl rfl _ rfl _ _ hg4 ?_))
  rw [zeros4]
  have hC := hid hc4
  have hwz := heap_alloc_new w4 (.cells (irow 4 (fun _ => 0)) 37)
  have hcz := (heap_alloc_old w4 (.cells (irow 4 (fun _ => 0)) 37) (heap_lt hc4)).trans hc4
  have hbz := hb4.alloc hb4.size (.cells (irow 4 (fun _ => 0)) 37)
  have hBz := hb4.size
  have hlt6 := heap_lt hc4
  generalize w4.alloc (.cells (irow 4 (fun _ => 0)) 37) = wz at hwz hcz hbz ⊢
  generalize w4.heap.size = B10 at *
  generalize w2.heap.size = B6 at *
  clear hqT
  go_loopw [11] (fun i wr => ∃ n : Nat, n ≤ 4 ∧ i = .int .i64 n ∧ 4 * n ≤ J ∧ wr.heap[B10]? = some (.cells (irow 4 (cst (wantTo f n))) 37 (0, 0)) ∧ wr.heap[B6]? = some (.cells (irow 4 C) 37 (0, 0)) ∧ Below w.heap.size w wr) (fun i _ => 4 - (intOf i).toNat)
  case atStart => exact ⟨0, by omega, rfl, by omega, by rw [hwz, show irow 4 (fun _ => 0) = irow 4 (cst (wantTo f 0)) from irow_congr fun i hi => by simp only [cst, wantTo]; rw [if_neg (by omega)]; rfl], hcz, hbz⟩
  case round =>
    clear hwz hcz hbz
    obtain ⟨n, hn4, rfl, hnJ, hw, hc, hb⟩ := hrel
    by_cases hlt : n < 4
    · have hlt' : (n : Int) < 4 := by omega
      go_wp2_with fail
      rw [zeros4]
      obtain ⟨wo, hwo⟩ : ∃ wo : World, wo = wr := ⟨_, rfl⟩
      have hbo : Below w.heap.size w wo := by rw [hwo]; exact hb
      have hBo := hbo.size
      have hmz := heap_alloc_new wr (.cells (irow 4 (fun _ => 0)) 54)
      have hwz := (heap_alloc_old wr (.cells (irow 4 (fun _ => 0)) 54) (heap_lt hw)).trans hw
      have hcz := (heap_alloc_old wr (.cells (irow 4 (fun _ => 0)) 54) (heap_lt hc)).trans hc
      have hbz := hb.alloc hb.size (.cells (irow 4 (fun _ => 0)) 54)
      have hlw := heap_lt hw
      have hBB : wo.heap.size = wr.heap.size := by rw [hwo]
      generalize wr.alloc (.cells (irow 4 (fun _ => 0)) 54) = wm at hmz hwz hcz hbz ⊢
      generalize hBM : wr.heap.size = BM at *
      clear hwo hBM hw hc hb hbo hBB
      go_loopw [13] (fun k wi => ∃ m : Nat, m ≤ 4 ∧ k = .int .i64 m ∧ 4 * n + m ≤ J ∧ wi.heap[BM]? = some (.cells (irow 4 (mkTo f n m)) 54 (0, 0)) ∧ wi.heap[B10]? = some (.cells (irow 4 (cst (wantTo f n))) 37 (0, 0)) ∧ wi.heap[B6]? = some (.cells (irow 4 C) 37 (0, 0)) ∧ Below w.heap.size w wi) (fun k _ => 4 - (intOf k).toNat)
      case atStart => exact ⟨0, by omega, rfl, by omega, by rw [hmz, show irow 4 (fun _ => 0) = irow 4 (mkTo f n 0) from irow_congr fun i hi => by simp only [mkTo]; rw [if_neg (by omega)]], hwz, hcz, hbz⟩
      case round =>
        clear hmz hwz hcz hbz
        obtain ⟨m, hm4, rfl, hmJ, hmk, hw, hc, hb⟩ := hrel
        by_cases hltm : m < 4
        · have hltm' : (m : Int) < 4 := by omega
          obtain ⟨q, hq⟩ : ∃ q : Nat, 4 * n + m = q := ⟨_, rfl⟩
          have hq' : 4 * ((n : Nat) : Int) + (m : Nat) = (q : Nat) := by omega
          have hq16 : ((q : Nat) : Int) < 16 := by omega
          have hrow : wr.cell? ⟨g, o + q, none⟩ = some (.int .i64 (f q)) := (hb.cell (p := ⟨g, o + q, none⟩) hgl).trans (HCell.out q (by omega))
          by_cases hqJ : q < J
          · have hy := HG.out q hqJ
            unfold Row at hy
            obtain ⟨hy1, hy2⟩ := hy
            have a1 : decide (f q < 1) = false := by simp; omega
            have a2 : decide (1000 < f q) = false := by simp; omega
            have hst := mk_step f n m
            rw [hq] at hst
            have Hst := hid hst
            have hcm := cell_irow hmk m hltm
            have hfz := frozen_of_row _ _ m _ _ hmk
            have n1 : B10 ≠ BM := by omega
            have n2 : B6 ≠ BM := by omega
            have Hmk := hid hmk
            have Hw := hid ((heap_setCell_other wr ⟨BM, m, none⟩ B10 (.int .i64 (2 - f q % 2)) n1).trans hw)
            have Hc := hid ((heap_setCell_other wr ⟨BM, m, none⟩ B6 (.int .i64 (2 - f q % 2)) n2).trans hc)
            have hmq : 4 * n + (m + 1) ≤ J := by omega
            clear hmk hw hc hst n1 n2 hq
            generalize f q = y at *
            go_wp2_with fail
            go_roundw
            case rel => exact ⟨m + 1, by omega, by go_num, hmq, by rw [set_irow Hmk.out, Hst.out], Hw.out, Hc.out, hb.setCell (show w.heap.size ≤ BM by omega) _⟩
            case measure => simp [intOf]; omega
          · obtain rfl : q = J := by omega
            rcases HKind.out with ⟨hJ16, hbad, hC0, rfl⟩ | ⟨h16, _⟩
            · have heC := eqlZeroM true C (by simpa using hC0)
              unfold Row at hbad
              have hcases : decide (f q < 1) = true ∨ (decide (f q < 1) = false ∧ decide (1000 < f q) = true) := by
                by_cases h : f q < 1
                · exact .inl (by simpa using h)
                · exact .inr ⟨by simpa using h, by simp; omega⟩
              clear hbad hC0 hq hmk hw
              generalize f q = y at *
              rcases hcases with a1 | ⟨a1, a2⟩
              all_goals
                go_wp2_with (first
                  | (refine ldrow arrMothers _ rfl rfl _ rfl _ _ hc ?_)
                  | (go_at_call 19; refine (HL.out _ hb).mono ?_; rintro e w8 ⟨rfl, hc8⟩; obtain ⟨hb8, h8⟩ := stepO hb hb.size hc hc8))
                go_ret
                exact ⟨rfl, hb8⟩
            · omega
        · have hge : ¬ (m : Int) < 4 := by omega
          obtain rfl : m = 4 := by omega
          rw [mk_full f n fun k hk => HG.out _ (by omega)] at hmk
          have HO := hid (fun W => rOf (fun k => 2 - (f (4 * n + k)).toNat % 2) (fun k _ => by omega) W)
          have Hst := hid (want_step f n)
          generalize ofT (fun k => 2 - (f (4 * n + k)).toNat % 2) 4 = y at HO Hst
          have hcmn : 4 * (n + 1) ≤ J := by omega
          have n1 : B6 ≠ B10 := by omega
          go_wp2_with (first
            | (refine ldrow arrFour _ rfl rfl _ rfl _ _ hmk ?_)
            | (go_at_call 35; refine (HO.out _).mono ?_; rintro e w7 ⟨rfl, hc7⟩; obtain ⟨hb7, hw7⟩ := stepO hb hb.size hw hc7; obtain ⟨_, hcc7⟩ := stepO hb hb.size hc hc7; have hcw := cell_irow hw7 n hlt; have hfz := frozen_of_row _ _ n _ _ hw7; have Hw := hid (set_irow hw7 n (y : Nat)); have Hc := hid ((heap_setCell_other w7 ⟨B10, n, none⟩ B6 (.int .i64 (y : Nat)) n1).trans hcc7); clear hw7 hcc7 hc7))
          go_roundw
          case rel => exact ⟨n + 1, by omega, by go_num, hcmn, by rw [Hw.out, Hst.out], Hc.out, hb7.setCell (show w.heap.size ≤ B10 by omega) _⟩
          case measure => simp [intOf]; omega
    · have hge : ¬ (n : Int) < 4 := by omega
      obtain rfl : n = 4 := by omega
      rcases HKind.out with ⟨h, _⟩ | ⟨_, rfl, hCe⟩
      · omega
      · have heq := eqlMothers C (cst (wantTo f 4)) true (by
          refine ⟨fun _ i hi => ?_, fun _ => rfl⟩
          rw [hCe i hi]; simp only [cst, wantTo]; rw [if_pos hi])
        clear hCe
        go_wp2_with (first
          | (refine ldrow arrMothers _ rfl rfl _ rfl _ _ hc ?_) | (refine ldrow arrMothers _ rfl rfl _ rfl _ _ hw ?_)
          | (go_at_call 19; refine (HL.out _ hb).mono ?_; rintro e w8 ⟨rfl, hc8⟩; obtain ⟨hb8, h8⟩ := stepO hb hb.size hc hc8))
        go_ret
        exact ⟨rfl, hb8⟩

set_option maxHeartbeats 4000000 in
theorem lawCasts_big_loops (g o c : Nat) (xs : List Int) (num : Int) (w : World) (hr : ReadsA w (.slice (some ⟨g, o, none⟩) 16 c) xs) (hl : xs.length ≤ 40) (C : Nat → Int) (ce : Int) (hcast : ∀ (W : World) (u : Value), Ints W 0 u xs → Calls Tryd.prog 37 #[u] W fun e w' => e = .returned (.tuple #[.agg (irow 4 C), .int .i64 ce]) ∧ Below W.heap.size W w')
    (T : Nat → Int) (hm : ∀ W : World, Calls Tryd.prog 27 #[.int .i64 num] W fun e w' => e = .returned (.tuple #[.agg (irow 4 T), .int .i64 3]) ∧ Below W.heap.size W w')
    (hn0 : ¬ num < 0) (hn : 65535 < num) (hT : ∀ i, i < 4 → T i = 0) (hgl : g < w.heap.size) (f : Nat → Int) (hcell : ∀ i, i < 16 → w.cell? ⟨g, o + i, none⟩ = some (.int .i64 (f i))) (J : Nat) (hJ : J ≤ 16) (hgood : ∀ i, i < J → Row (f i))
    (hkind : (J < 16 ∧ ¬ Row (f J) ∧ (∀ i, i < 4 → C i = 0) ∧ ce = 3) ∨ (J = 16 ∧ ce = 0 ∧ ∀ i, i < 4 → C i = ((ofT (fun k => 2 - (f (4 * i + k)).toNat % 2) 4 : Nat) : Int))) (L : Base w) :
    Calls Tryd.prog 7 #[(.slice (some ⟨g, o, none⟩) 16 c), .int .i64 num] w fun e w' => e = .returned (.bool true) ∧ Below w.heap.size w w' := by
  have hi0 := Ints.made w w.heap.size (Nat.le_refl _)
  have hb0 : Below w.heap.size w (w.alloc (.cells #[] 3)) := (Below.refl _ _).alloc (Nat.le_refl _) _
  have hr0 := hr.below hb0
  have HR := hid hr
  have HG := hid hgood
  have HCell := hid hcell
  have HKind := hid hkind
  clear hgood hcell hkind
  have HC := hid hcast
  have HM := hid hm
  have HL := hid (fun W (hb : Below w.heap.size w W) => known_b W (L.below hb))
  have hB := hb0.size
  have hqT := neqZeroM true T (by simpa using hT)
  clear hT
  clear hcast hm L hr
  go_enter Tryd.func7, Tryd.ntmps7
  go_wp2_with (first
    | (at_builtin; refine wp_append_reads rfl _ _ rfl w.heap.size _ [] rfl hi0 _ xs rfl hr0 (by simp; omega) hB ?_; intro v1 w1 hi1 hg1; have hb1 := grown_below hb0 hg1 hi0 (Nat.le_refl _) hB; rw [List.nil_append] at hi1; clear hi0 hr0 hg1)
    | (go_at_call 37; refine (HC.out _ _ (hi1.mono (Nat.zero_le _))).mono ?_; rintro e w2 ⟨rfl, hc⟩; have hb2 := hb1.trans (hc.mono hb1.size); have hi2 := hi1.below hc; have hz := heap_alloc_new w2 (.cells (irow 4 (fun _ => 0)) 37); have hbz := hb2.alloc hb2.size (.cells (irow 4 (fun _ => 0)) 37); have his := hi2.below (below_setRow ((Below.refl w2.heap.size w2).alloc (Nat.le_refl _) (.cells (irow 4 (fun _ => 0)) 37)) (Nat.le_refl _) (irow 4 C)); clear hc hi1 hi2)
    | (rw [zeros4]; refine strow arrMothers _ _ rfl rfl _ _ rfl rfl _ _ hz ?_; have hbs := below_setRow hbz hb2.size (irow 4 C); have hgs := setRow_heap _ _ _ (irow 4 C) _ _ hz; clear hz hbz; generalize World.setRow _ _ _ = ws at his hgs hbs ⊢)
    | (go_at_call 27; refine (HM.out _).mono ?_; rintro e w3 ⟨rfl, hc⟩; obtain ⟨hb3, hg3⟩ := stepO hbs hbs.size hgs hc; have hi3 := his.below hc; have hz3 := heap_alloc_new w3 (.cells (irow 4 (fun _ => 0)) 37); have hbz3 := hb3.alloc hb3.size (.cells (irow 4 (fun _ => 0)) 37); have hbo := below_setRow ((Below.refl w3.heap.size w3).alloc (Nat.le_refl _) (.cells (irow 4 (fun _ => 0)) 37)) (Nat.le_refl _) (irow 4 T); have hit := hi3.below hbo; have hgc := heap_below hbo hg3 (heap_lt hg3); clear hc hgs hbs his hi3 hbo)
    | (rw [zeros4]; refine strow arrMothers _ _ rfl rfl _ _ rfl rfl _ _ hz3 ?_; have hbt := below_setRow hbz3 hb3.size (irow 4 T); have hgt := setRow_heap _ _ _ (irow 4 T) _ _ hz3; clear hz3 hbz3; generalize World.setRow _ _ _ = wt at hit hgt hgc hbt ⊢)
    | (go_at_call 20; refine (same_true _ _ xs _ hit.reads (HR.out.below hbt).reads (by omega)).mono ?_; rintro e w4 ⟨rfl, hc⟩; obtain ⟨hb4, hg4⟩ := stepO hbt hbt.size hgt hc; obtain ⟨_, hc4⟩ := stepO hbt hbt.size hgc hc; clear hc hgt hgc hit)
    | (refine ldrow arrMothers _ rfl rfl _ rfl _ _ hg4 ?_))
  rw [zeros4]
  have hC := hid hc4
  have hwz := heap_alloc_new w4 (.cells (irow 4 (fun _ => 0)) 37)
  have hcz := (heap_alloc_old w4 (.cells (irow 4 (fun _ => 0)) 37) (heap_lt hc4)).trans hc4
  have hbz := hb4.alloc hb4.size (.cells (irow 4 (fun _ => 0)) 37)
  have hBz := hb4.size
  have hlt6 := heap_lt hc4
  generalize w4.alloc (.cells (irow 4 (fun _ => 0)) 37) = wz at hwz hcz hbz ⊢
  generalize w4.heap.size = B10 at *
  generalize w2.heap.size = B6 at *
  clear hqT
  go_loopw [11] (fun i wr => ∃ n : Nat, n ≤ 4 ∧ i = .int .i64 n ∧ 4 * n ≤ J ∧ wr.heap[B10]? = some (.cells (irow 4 (cst (wantTo f n))) 37 (0, 0)) ∧ wr.heap[B6]? = some (.cells (irow 4 C) 37 (0, 0)) ∧ Below w.heap.size w wr) (fun i _ => 4 - (intOf i).toNat)
  case atStart => exact ⟨0, by omega, rfl, by omega, by rw [hwz, show irow 4 (fun _ => 0) = irow 4 (cst (wantTo f 0)) from irow_congr fun i hi => by simp only [cst, wantTo]; rw [if_neg (by omega)]; rfl], hcz, hbz⟩
  case round =>
    clear hwz hcz hbz
    obtain ⟨n, hn4, rfl, hnJ, hw, hc, hb⟩ := hrel
    by_cases hlt : n < 4
    · have hlt' : (n : Int) < 4 := by omega
      go_wp2_with fail
      rw [zeros4]
      obtain ⟨wo, hwo⟩ : ∃ wo : World, wo = wr := ⟨_, rfl⟩
      have hbo : Below w.heap.size w wo := by rw [hwo]; exact hb
      have hBo := hbo.size
      have hmz := heap_alloc_new wr (.cells (irow 4 (fun _ => 0)) 54)
      have hwz := (heap_alloc_old wr (.cells (irow 4 (fun _ => 0)) 54) (heap_lt hw)).trans hw
      have hcz := (heap_alloc_old wr (.cells (irow 4 (fun _ => 0)) 54) (heap_lt hc)).trans hc
      have hbz := hb.alloc hb.size (.cells (irow 4 (fun _ => 0)) 54)
      have hlw := heap_lt hw
      have hBB : wo.heap.size = wr.heap.size := by rw [hwo]
      generalize wr.alloc (.cells (irow 4 (fun _ => 0)) 54) = wm at hmz hwz hcz hbz ⊢
      generalize hBM : wr.heap.size = BM at *
      clear hwo hBM hw hc hb hbo hBB
      go_loopw [13] (fun k wi => ∃ m : Nat, m ≤ 4 ∧ k = .int .i64 m ∧ 4 * n + m ≤ J ∧ wi.heap[BM]? = some (.cells (irow 4 (mkTo f n m)) 54 (0, 0)) ∧ wi.heap[B10]? = some (.cells (irow 4 (cst (wantTo f n))) 37 (0, 0)) ∧ wi.heap[B6]? = some (.cells (irow 4 C) 37 (0, 0)) ∧ Below w.heap.size w wi) (fun k _ => 4 - (intOf k).toNat)
      case atStart => exact ⟨0, by omega, rfl, by omega, by rw [hmz, show irow 4 (fun _ => 0) = irow 4 (mkTo f n 0) from irow_congr fun i hi => by simp only [mkTo]; rw [if_neg (by omega)]], hwz, hcz, hbz⟩
      case round =>
        clear hmz hwz hcz hbz
        obtain ⟨m, hm4, rfl, hmJ, hmk, hw, hc, hb⟩ := hrel
        by_cases hltm : m < 4
        · have hltm' : (m : Int) < 4 := by omega
          obtain ⟨q, hq⟩ : ∃ q : Nat, 4 * n + m = q := ⟨_, rfl⟩
          have hq' : 4 * ((n : Nat) : Int) + (m : Nat) = (q : Nat) := by omega
          have hq16 : ((q : Nat) : Int) < 16 := by omega
          have hrow : wr.cell? ⟨g, o + q, none⟩ = some (.int .i64 (f q)) := (hb.cell (p := ⟨g, o + q, none⟩) hgl).trans (HCell.out q (by omega))
          by_cases hqJ : q < J
          · have hy := HG.out q hqJ
            unfold Row at hy
            obtain ⟨hy1, hy2⟩ := hy
            have a1 : decide (f q < 1) = false := by simp; omega
            have a2 : decide (1000 < f q) = false := by simp; omega
            have hst := mk_step f n m
            rw [hq] at hst
            have Hst := hid hst
            have hcm := cell_irow hmk m hltm
            have hfz := frozen_of_row _ _ m _ _ hmk
            have n1 : B10 ≠ BM := by omega
            have n2 : B6 ≠ BM := by omega
            have Hmk := hid hmk
            have Hw := hid ((heap_setCell_other wr ⟨BM, m, none⟩ B10 (.int .i64 (2 - f q % 2)) n1).trans hw)
            have Hc := hid ((heap_setCell_other wr ⟨BM, m, none⟩ B6 (.int .i64 (2 - f q % 2)) n2).trans hc)
            have hmq : 4 * n + (m + 1) ≤ J := by omega
            clear hmk hw hc hst n1 n2 hq
            generalize f q = y at *
            go_wp2_with fail
            go_roundw
            case rel => exact ⟨m + 1, by omega, by go_num, hmq, by rw [set_irow Hmk.out, Hst.out], Hw.out, Hc.out, hb.setCell (show w.heap.size ≤ BM by omega) _⟩
            case measure => simp [intOf]; omega
          · obtain rfl : q = J := by omega
            rcases HKind.out with ⟨hJ16, hbad, hC0, rfl⟩ | ⟨h16, _⟩
            · have heC := eqlZeroM true C (by simpa using hC0)
              unfold Row at hbad
              have hcases : decide (f q < 1) = true ∨ (decide (f q < 1) = false ∧ decide (1000 < f q) = true) := by
                by_cases h : f q < 1
                · exact .inl (by simpa using h)
                · exact .inr ⟨by simpa using h, by simp; omega⟩
              clear hbad hC0 hq hmk hw
              generalize f q = y at *
              rcases hcases with a1 | ⟨a1, a2⟩
              all_goals
                go_wp2_with (first
                  | (refine ldrow arrMothers _ rfl rfl _ rfl _ _ hc ?_)
                  | (go_at_call 19; refine (HL.out _ hb).mono ?_; rintro e w8 ⟨rfl, hc8⟩; obtain ⟨hb8, h8⟩ := stepO hb hb.size hc hc8))
                go_ret
                exact ⟨rfl, hb8⟩
            · omega
        · have hge : ¬ (m : Int) < 4 := by omega
          obtain rfl : m = 4 := by omega
          rw [mk_full f n fun k hk => HG.out _ (by omega)] at hmk
          have HO := hid (fun W => rOf (fun k => 2 - (f (4 * n + k)).toNat % 2) (fun k _ => by omega) W)
          have Hst := hid (want_step f n)
          generalize ofT (fun k => 2 - (f (4 * n + k)).toNat % 2) 4 = y at HO Hst
          have hcmn : 4 * (n + 1) ≤ J := by omega
          have n1 : B6 ≠ B10 := by omega
          go_wp2_with (first
            | (refine ldrow arrFour _ rfl rfl _ rfl _ _ hmk ?_)
            | (go_at_call 35; refine (HO.out _).mono ?_; rintro e w7 ⟨rfl, hc7⟩; obtain ⟨hb7, hw7⟩ := stepO hb hb.size hw hc7; obtain ⟨_, hcc7⟩ := stepO hb hb.size hc hc7; have hcw := cell_irow hw7 n hlt; have hfz := frozen_of_row _ _ n _ _ hw7; have Hw := hid (set_irow hw7 n (y : Nat)); have Hc := hid ((heap_setCell_other w7 ⟨B10, n, none⟩ B6 (.int .i64 (y : Nat)) n1).trans hcc7); clear hw7 hcc7 hc7))
          go_roundw
          case rel => exact ⟨n + 1, by omega, by go_num, hcmn, by rw [Hw.out, Hst.out], Hc.out, hb7.setCell (show w.heap.size ≤ B10 by omega) _⟩
          case measure => simp [intOf]; omega
    · have hge : ¬ (n : Int) < 4 := by omega
      obtain rfl : n = 4 := by omega
      rcases HKind.out with ⟨h, _⟩ | ⟨_, rfl, hCe⟩
      · omega
      · have heq := eqlMothers C (cst (wantTo f 4)) true (by
          refine ⟨fun _ i hi => ?_, fun _ => rfl⟩
          rw [hCe i hi]; simp only [cst, wantTo]; rw [if_pos hi])
        clear hCe
        go_wp2_with (first
          | (refine ldrow arrMothers _ rfl rfl _ rfl _ _ hc ?_) | (refine ldrow arrMothers _ rfl rfl _ rfl _ _ hw ?_)
          | (go_at_call 19; refine (HL.out _ hb).mono ?_; rintro e w8 ⟨rfl, hc8⟩; obtain ⟨hb8, h8⟩ := stepO hb hb.size hc hc8))
        go_ret
        exact ⟨rfl, hb8⟩

set_option maxHeartbeats 4000000 in
theorem lawCasts_ok_loops (g o c : Nat) (xs : List Int) (num : Int) (w : World) (hr : ReadsA w (.slice (some ⟨g, o, none⟩) 16 c) xs) (hl : xs.length ≤ 40) (C : Nat → Int) (ce : Int) (hcast : ∀ (W : World) (u : Value), Ints W 0 u xs → Calls Tryd.prog 37 #[u] W fun e w' => e = .returned (.tuple #[.agg (irow 4 C), .int .i64 ce]) ∧ Below W.heap.size W w')
    (T : Nat → Int) (hm : ∀ W : World, Calls Tryd.prog 27 #[.int .i64 num] W fun e w' => e = .returned (.tuple #[.agg (irow 4 T), .int .i64 0]) ∧ Below W.heap.size W w')
    (hn0 : ¬ num < 0) (hn : ¬ 65535 < num) (hrm : ∀ W : World, Calls Tryd.prog 25 #[.int .i64 num] W fun e w' => e = .returned (.agg (irow 4 T)) ∧ Below W.heap.size W w') (hgl : g < w.heap.size) (f : Nat → Int) (hcell : ∀ i, i < 16 → w.cell? ⟨g, o + i, none⟩ = some (.int .i64 (f i))) (J : Nat) (hJ : J ≤ 16) (hgood : ∀ i, i < J → Row (f i))
    (hkind : (J < 16 ∧ ¬ Row (f J) ∧ (∀ i, i < 4 → C i = 0) ∧ ce = 3) ∨ (J = 16 ∧ ce = 0 ∧ ∀ i, i < 4 → C i = ((ofT (fun k => 2 - (f (4 * i + k)).toNat % 2) 4 : Nat) : Int))) (L : Base w) :
    Calls Tryd.prog 7 #[(.slice (some ⟨g, o, none⟩) 16 c), .int .i64 num] w fun e w' => e = .returned (.bool true) ∧ Below w.heap.size w w' := by
  have hi0 := Ints.made w w.heap.size (Nat.le_refl _)
  have hb0 : Below w.heap.size w (w.alloc (.cells #[] 3)) := (Below.refl _ _).alloc (Nat.le_refl _) _
  have hr0 := hr.below hb0
  have HR := hid hr
  have HG := hid hgood
  have HCell := hid hcell
  have HKind := hid hkind
  clear hgood hcell hkind
  have HC := hid hcast
  have HM := hid hm
  have HL := hid (fun W (hb : Below w.heap.size w W) => known_b W (L.below hb))
  have hB := hb0.size
  have hqT := neqMothers T T true (by simp)
  have HRM := hid hrm
  clear hrm
  clear hcast hm L hr
  go_enter Tryd.func7, Tryd.ntmps7
  go_wp2_with (first
    | (at_builtin; refine wp_append_reads rfl _ _ rfl w.heap.size _ [] rfl hi0 _ xs rfl hr0 (by simp; omega) hB ?_; intro v1 w1 hi1 hg1; have hb1 := grown_below hb0 hg1 hi0 (Nat.le_refl _) hB; rw [List.nil_append] at hi1; clear hi0 hr0 hg1)
    | (go_at_call 37; refine (HC.out _ _ (hi1.mono (Nat.zero_le _))).mono ?_; rintro e w2 ⟨rfl, hc⟩; have hb2 := hb1.trans (hc.mono hb1.size); have hi2 := hi1.below hc; have hz := heap_alloc_new w2 (.cells (irow 4 (fun _ => 0)) 37); have hbz := hb2.alloc hb2.size (.cells (irow 4 (fun _ => 0)) 37); have his := hi2.below (below_setRow ((Below.refl w2.heap.size w2).alloc (Nat.le_refl _) (.cells (irow 4 (fun _ => 0)) 37)) (Nat.le_refl _) (irow 4 C)); clear hc hi1 hi2)
    | (rw [zeros4]; refine strow arrMothers _ _ rfl rfl _ _ rfl rfl _ _ hz ?_; have hbs := below_setRow hbz hb2.size (irow 4 C); have hgs := setRow_heap _ _ _ (irow 4 C) _ _ hz; clear hz hbz; generalize World.setRow _ _ _ = ws at his hgs hbs ⊢)
    | (go_at_call 27; refine (HM.out _).mono ?_; rintro e w3 ⟨rfl, hc⟩; obtain ⟨hb3, hg3⟩ := stepO hbs hbs.size hgs hc; have hi3 := his.below hc; have hz3 := heap_alloc_new w3 (.cells (irow 4 (fun _ => 0)) 37); have hbz3 := hb3.alloc hb3.size (.cells (irow 4 (fun _ => 0)) 37); have hbo := below_setRow ((Below.refl w3.heap.size w3).alloc (Nat.le_refl _) (.cells (irow 4 (fun _ => 0)) 37)) (Nat.le_refl _) (irow 4 T); have hit := hi3.below hbo; have hgc := heap_below hbo hg3 (heap_lt hg3); clear hc hgs hbs his hi3 hbo)
    | (rw [zeros4]; refine strow arrMothers _ _ rfl rfl _ _ rfl rfl _ _ hz3 ?_; have hbt := below_setRow hbz3 hb3.size (irow 4 T); have hgt := setRow_heap _ _ _ (irow 4 T) _ _ hz3; clear hz3 hbz3; generalize World.setRow _ _ _ = wt at hit hgt hgc hbt ⊢)
    | (go_at_call 20; refine (same_true _ _ xs _ hit.reads (HR.out.below hbt).reads (by omega)).mono ?_; rintro e w4 ⟨rfl, hc⟩; obtain ⟨hb4, hg4⟩ := stepO hbt hbt.size hgt hc; obtain ⟨_, hc4⟩ := stepO hbt hbt.size hgc hc; clear hc hgt hgc hit))
  have hls := heap_lt hg4
  have K := hid (fun W (hb : Below w4.heap.size w4 W) => (⟨cell_irow (heap_below hb hg4 hls) 0 (by omega), cell_irow (heap_below hb hg4 hls) 1 (by omega), cell_irow (heap_below hb hg4 hls) 2 (by omega), cell_irow (heap_below hb hg4 hls) 3 (by omega), hb⟩ : W.cell? ⟨w3.heap.size, 0, none⟩ = some (.int .i64 (T 0)) ∧ W.cell? ⟨w3.heap.size, 1, none⟩ = some (.int .i64 (T 1)) ∧ W.cell? ⟨w3.heap.size, 2, none⟩ = some (.int .i64 (T 2)) ∧ W.cell? ⟨w3.heap.size, 3, none⟩ = some (.int .i64 (T 3)) ∧ Below w4.heap.size w4 W))
  have K0 := hid (K.out w4.drew (Below.refl _ _).drew)
  have KC := hid (fun W W2 (h2 : Below W.heap.size W W2) (hb : W.cell? ⟨w3.heap.size, 0, none⟩ = some (.int .i64 (T 0)) ∧ W.cell? ⟨w3.heap.size, 1, none⟩ = some (.int .i64 (T 1)) ∧ W.cell? ⟨w3.heap.size, 2, none⟩ = some (.int .i64 (T 2)) ∧ W.cell? ⟨w3.heap.size, 3, none⟩ = some (.int .i64 (T 3)) ∧ Below w4.heap.size w4 W) => K.out W2 (hb.2.2.2.2.trans (h2.mono hb.2.2.2.2.size)))
  have HC4 := hid hc4
  clear K hg4 hc4
  rw [show irow 4 T = #[.int .i64 (T 0), .int .i64 (T 1), .int .i64 (T 2), .int .i64 (T 3)] from rfl] at HRM hqT
  go_region_held3 (fun W => W.cell? ⟨w3.heap.size, 0, none⟩ = some (.int .i64 (T 0)) ∧ W.cell? ⟨w3.heap.size, 1, none⟩ = some (.int .i64 (T 1)) ∧ W.cell? ⟨w3.heap.size, 2, none⟩ = some (.int .i64 (T 2)) ∧ W.cell? ⟨w3.heap.size, 3, none⟩ = some (.int .i64 (T 3)) ∧ Below w4.heap.size w4 W)
    (first | exact K0.out | exact KC.out _ _ (by assumption) (by assumption))
    (first | (go_at_call 25; refine (HRM.out _).mono ?_; rintro e w5 ⟨rfl, hb5⟩) | fail)
  have hb9 := And.right (And.right (And.right (And.right (show w5.cell? ⟨w3.heap.size, 0, none⟩ = some (.int .i64 (T 0)) ∧ w5.cell? ⟨w3.heap.size, 1, none⟩ = some (.int .i64 (T 1)) ∧ w5.cell? ⟨w3.heap.size, 2, none⟩ = some (.int .i64 (T 2)) ∧ w5.cell? ⟨w3.heap.size, 3, none⟩ = some (.int .i64 (T 3)) ∧ Below w4.heap.size w4 w5 by assumption))))
  obtain ⟨hb6, hc6⟩ := stepO hb4 hb4.size HC4.out hb9
  clear K0 KC hls hb9
  go_wp2_with fail
  rw [zeros4]
  have hC := hid hc6
  have hwz := heap_alloc_new w5 (.cells (irow 4 (fun _ => 0)) 37)
  have hcz := (heap_alloc_old w5 (.cells (irow 4 (fun _ => 0)) 37) (heap_lt hc6)).trans hc6
  have hbz := hb6.alloc hb6.size (.cells (irow 4 (fun _ => 0)) 37)
  have hBz := hb6.size
  have hlt6 := heap_lt hc6
  generalize w5.alloc (.cells (irow 4 (fun _ => 0)) 37) = wz at hwz hcz hbz ⊢
  generalize w5.heap.size = B10 at *
  generalize w2.heap.size = B6 at *
  clear hqT
  go_loopw [11] (fun i wr => ∃ n : Nat, n ≤ 4 ∧ i = .int .i64 n ∧ 4 * n ≤ J ∧ wr.heap[B10]? = some (.cells (irow 4 (cst (wantTo f n))) 37 (0, 0)) ∧ wr.heap[B6]? = some (.cells (irow 4 C) 37 (0, 0)) ∧ Below w.heap.size w wr) (fun i _ => 4 - (intOf i).toNat)
  case atStart => exact ⟨0, by omega, rfl, by omega, by rw [hwz, show irow 4 (fun _ => 0) = irow 4 (cst (wantTo f 0)) from irow_congr fun i hi => by simp only [cst, wantTo]; rw [if_neg (by omega)]; rfl], hcz, hbz⟩
  case round =>
    clear hwz hcz hbz
    obtain ⟨n, hn4, rfl, hnJ, hw, hc, hb⟩ := hrel
    by_cases hlt : n < 4
    · have hlt' : (n : Int) < 4 := by omega
      go_wp2_with fail
      rw [zeros4]
      obtain ⟨wo, hwo⟩ : ∃ wo : World, wo = wr := ⟨_, rfl⟩
      have hbo : Below w.heap.size w wo := by rw [hwo]; exact hb
      have hBo := hbo.size
      have hmz := heap_alloc_new wr (.cells (irow 4 (fun _ => 0)) 54)
      have hwz := (heap_alloc_old wr (.cells (irow 4 (fun _ => 0)) 54) (heap_lt hw)).trans hw
      have hcz := (heap_alloc_old wr (.cells (irow 4 (fun _ => 0)) 54) (heap_lt hc)).trans hc
      have hbz := hb.alloc hb.size (.cells (irow 4 (fun _ => 0)) 54)
      have hlw := heap_lt hw
      have hBB : wo.heap.size = wr.heap.size := by rw [hwo]
      generalize wr.alloc (.cells (irow 4 (fun _ => 0)) 54) = wm at hmz hwz hcz hbz ⊢
      generalize hBM : wr.heap.size = BM at *
      clear hwo hBM hw hc hb hbo hBB
      go_loopw [13] (fun k wi => ∃ m : Nat, m ≤ 4 ∧ k = .int .i64 m ∧ 4 * n + m ≤ J ∧ wi.heap[BM]? = some (.cells (irow 4 (mkTo f n m)) 54 (0, 0)) ∧ wi.heap[B10]? = some (.cells (irow 4 (cst (wantTo f n))) 37 (0, 0)) ∧ wi.heap[B6]? = some (.cells (irow 4 C) 37 (0, 0)) ∧ Below w.heap.size w wi) (fun k _ => 4 - (intOf k).toNat)
      case atStart => exact ⟨0, by omega, rfl, by omega, by rw [hmz, show irow 4 (fun _ => 0) = irow 4 (mkTo f n 0) from irow_congr fun i hi => by simp only [mkTo]; rw [if_neg (by omega)]], hwz, hcz, hbz⟩
      case round =>
        clear hmz hwz hcz hbz
        obtain ⟨m, hm4, rfl, hmJ, hmk, hw, hc, hb⟩ := hrel
        by_cases hltm : m < 4
        · have hltm' : (m : Int) < 4 := by omega
          obtain ⟨q, hq⟩ : ∃ q : Nat, 4 * n + m = q := ⟨_, rfl⟩
          have hq' : 4 * ((n : Nat) : Int) + (m : Nat) = (q : Nat) := by omega
          have hq16 : ((q : Nat) : Int) < 16 := by omega
          have hrow : wr.cell? ⟨g, o + q, none⟩ = some (.int .i64 (f q)) := (hb.cell (p := ⟨g, o + q, none⟩) hgl).trans (HCell.out q (by omega))
          by_cases hqJ : q < J
          · have hy := HG.out q hqJ
            unfold Row at hy
            obtain ⟨hy1, hy2⟩ := hy
            have a1 : decide (f q < 1) = false := by simp; omega
            have a2 : decide (1000 < f q) = false := by simp; omega
            have hst := mk_step f n m
            rw [hq] at hst
            have Hst := hid hst
            have hcm := cell_irow hmk m hltm
            have hfz := frozen_of_row _ _ m _ _ hmk
            have n1 : B10 ≠ BM := by omega
            have n2 : B6 ≠ BM := by omega
            have Hmk := hid hmk
            have Hw := hid ((heap_setCell_other wr ⟨BM, m, none⟩ B10 (.int .i64 (2 - f q % 2)) n1).trans hw)
            have Hc := hid ((heap_setCell_other wr ⟨BM, m, none⟩ B6 (.int .i64 (2 - f q % 2)) n2).trans hc)
            have hmq : 4 * n + (m + 1) ≤ J := by omega
            clear hmk hw hc hst n1 n2 hq
            generalize f q = y at *
            go_wp2_with fail
            go_roundw
            case rel => exact ⟨m + 1, by omega, by go_num, hmq, by rw [set_irow Hmk.out, Hst.out], Hw.out, Hc.out, hb.setCell (show w.heap.size ≤ BM by omega) _⟩
            case measure => simp [intOf]; omega
          · obtain rfl : q = J := by omega
            rcases HKind.out with ⟨hJ16, hbad, hC0, rfl⟩ | ⟨h16, _⟩
            · have heC := eqlZeroM true C (by simpa using hC0)
              unfold Row at hbad
              have hcases : decide (f q < 1) = true ∨ (decide (f q < 1) = false ∧ decide (1000 < f q) = true) := by
                by_cases h : f q < 1
                · exact .inl (by simpa using h)
                · exact .inr ⟨by simpa using h, by simp; omega⟩
              clear hbad hC0 hq hmk hw
              generalize f q = y at *
              rcases hcases with a1 | ⟨a1, a2⟩
              all_goals
                go_wp2_with (first
                  | (refine ldrow arrMothers _ rfl rfl _ rfl _ _ hc ?_)
                  | (go_at_call 19; refine (HL.out _ hb).mono ?_; rintro e w8 ⟨rfl, hc8⟩; obtain ⟨hb8, h8⟩ := stepO hb hb.size hc hc8))
                go_ret
                exact ⟨rfl, hb8⟩
            · omega
        · have hge : ¬ (m : Int) < 4 := by omega
          obtain rfl : m = 4 := by omega
          rw [mk_full f n fun k hk => HG.out _ (by omega)] at hmk
          have HO := hid (fun W => rOf (fun k => 2 - (f (4 * n + k)).toNat % 2) (fun k _ => by omega) W)
          have Hst := hid (want_step f n)
          generalize ofT (fun k => 2 - (f (4 * n + k)).toNat % 2) 4 = y at HO Hst
          have hcmn : 4 * (n + 1) ≤ J := by omega
          have n1 : B6 ≠ B10 := by omega
          go_wp2_with (first
            | (refine ldrow arrFour _ rfl rfl _ rfl _ _ hmk ?_)
            | (go_at_call 35; refine (HO.out _).mono ?_; rintro e w7 ⟨rfl, hc7⟩; obtain ⟨hb7, hw7⟩ := stepO hb hb.size hw hc7; obtain ⟨_, hcc7⟩ := stepO hb hb.size hc hc7; have hcw := cell_irow hw7 n hlt; have hfz := frozen_of_row _ _ n _ _ hw7; have Hw := hid (set_irow hw7 n (y : Nat)); have Hc := hid ((heap_setCell_other w7 ⟨B10, n, none⟩ B6 (.int .i64 (y : Nat)) n1).trans hcc7); clear hw7 hcc7 hc7))
          go_roundw
          case rel => exact ⟨n + 1, by omega, by go_num, hcmn, by rw [Hw.out, Hst.out], Hc.out, hb7.setCell (show w.heap.size ≤ B10 by omega) _⟩
          case measure => simp [intOf]; omega
    · have hge : ¬ (n : Int) < 4 := by omega
      obtain rfl : n = 4 := by omega
      rcases HKind.out with ⟨h, _⟩ | ⟨_, rfl, hCe⟩
      · omega
      · have heq := eqlMothers C (cst (wantTo f 4)) true (by
          refine ⟨fun _ i hi => ?_, fun _ => rfl⟩
          rw [hCe i hi]; simp only [cst, wantTo]; rw [if_pos hi])
        clear hCe
        go_wp2_with (first
          | (refine ldrow arrMothers _ rfl rfl _ rfl _ _ hc ?_) | (refine ldrow arrMothers _ rfl rfl _ rfl _ _ hw ?_)
          | (go_at_call 19; refine (HL.out _ hb).mono ?_; rintro e w8 ⟨rfl, hc8⟩; obtain ⟨hb8, h8⟩ := stepO hb hb.size hc hc8))
        go_ret
        exact ⟨rfl, hb8⟩

theorem at16 {W : World} {u : Value} {xs : List Int} (hr : Reads W u xs) (h16 : xs.length = 16) : ∃ g o c, u = .slice (some ⟨g, o, none⟩) 16 c ∧ g < W.heap.size ∧ ∀ i, i < 16 → W.cell? ⟨g, o + i, none⟩ = some (.int .i64 (xs.getD i 0)) := by
  rcases hr with ⟨rfl, _⟩ | ⟨g, o, c, rfl, hg, hc⟩
  · simp at h16
  · exact ⟨g, o, c, by rw [h16], hg, fun i hi => by rw [getD_lt _ _ (by omega)]; exact hc i (by omega)⟩
theorem lawCasts (v : Value) (xs : List Int) (num : Int) (w : World) (hr : ReadsA w v xs) (_hx : xs.length ≤ maxLen) (L : Base w) :
    Calls Tryd.prog 7 #[v, .int .i64 num] w fun e w' => e = .returned (.bool true) ∧ Below w.heap.size w w' := by
  by_cases hl : 40 < xs.length
  · exact lawCasts_long v xs num w hr hl L
  by_cases h16 : xs.length = 16
  · obtain ⟨g, o, c, rfl, hgl, hcell⟩ := at16 hr.reads h16
    have key : ∃ (C : Nat → Int) (ce : Int) (J : Nat), J ≤ 16 ∧ (∀ i, i < J → Row (xs.getD i 0)) ∧ ((J < 16 ∧ ¬ Row (xs.getD J 0) ∧ (∀ i, i < 4 → C i = 0) ∧ ce = 3) ∨ (J = 16 ∧ ce = 0 ∧ ∀ i, i < 4 → C i = ((ofT (fun k => 2 - (xs.getD (4 * i + k) 0).toNat % 2) 4 : Nat) : Int))) ∧
        ∀ (W : World) (u : Value), Ints W 0 u xs → Calls Tryd.prog 37 #[u] W fun e w' => e = .returned (.tuple #[.agg (irow 4 C), .int .i64 ce]) ∧ Below W.heap.size W w' := by
      by_cases hall : ∀ i, i < 16 → Row (xs.getD i 0)
      · refine ⟨cst (csT (fun i => (xs.getD i 0).toNat) 16), 0, 16, by omega, hall, .inr ⟨rfl, rfl, fun i hi => ?_⟩, fun W u hu => ?_⟩
        · simp only [cst]; rw [csT_of _ i hi]
        · obtain ⟨g, o, c, rfl, hg, hc⟩ := at16 hu.reads h16
          have e : ∀ i, i < 16 → (((xs.getD i 0).toNat : Nat) : Int) = xs.getD i 0 := fun i hi => by have := hall i hi; unfold Row at this; omega
          exact cast_yes (fun i => (xs.getD i 0).toNat) g o c W hg (fun i hi => by rw [hc i hi, e i hi]) (fun i hi => by rw [e i hi]; exact hall i hi)
      · have hex : ∃ j, j < 16 ∧ ¬ Row (xs.getD j 0) := by
          apply Classical.byContradiction
          intro h
          exact hall fun i hi => Classical.byContradiction fun hb => h ⟨i, hi, hb⟩
        obtain ⟨j, ⟨hj, hb⟩, hlj⟩ := exists_least hex
        refine ⟨fun _ => 0, 3, j, by omega, fun i hi => Classical.byContradiction fun hb => absurd (hlj i ⟨by omega, hb⟩) (by omega), .inl ⟨hj, hb, fun _ _ => rfl, rfl⟩, fun W u hu => ?_⟩
        obtain ⟨g, o, c, rfl, hg, hc⟩ := at16 hu.reads h16
        exact cast_range (fun i => xs.getD i 0) g o c W hg hc hall
    obtain ⟨C, ce, J, hJ, hgood, hkind, hcast⟩ := key
    by_cases hn0 : num < 0
    · exact lawCasts_neg_loops g o c xs num w hr (by omega) C ce hcast _ (fun W => Mothers_no num (.inl hn0) W) hn0 (fun _ _ => rfl) hgl _ hcell J hJ hgood hkind L
    · by_cases hn : 65535 < num
      · exact lawCasts_big_loops g o c xs num w hr (by omega) C ce hcast _ (fun W => Mothers_no num (.inr hn) W) hn0 hn (fun _ _ => rfl) hgl _ hcell J hJ hgood hkind L
      · obtain ⟨n, rfl⟩ : ∃ n : Nat, num = n := ⟨num.toNat, by omega⟩
        exact lawCasts_ok_loops g o c xs n w hr (by omega) C ce hcast _ (fun W => Mothers_yes n (by omega) W) hn0 hn (fun W => rMothers n (by omega) W) hgl _ hcell J hJ hgood hkind L
  · have hcast : ∀ (W : World) (u : Value), Ints W 0 u xs → Calls Tryd.prog 37 #[u] W fun e w' => e = .returned (.tuple #[.agg (irow 4 (fun _ => 0)), .int .i64 5]) ∧ Below W.heap.size W w' := fun W u hu => by
      obtain ⟨p, c, rfl⟩ := hu.form
      exact cast_long p _ c h16 (by omega) W
    by_cases hn0 : num < 0
    · exact lawCasts_neg_long v xs num w hr (by omega) _ hcast _ (fun W => Mothers_no num (.inl hn0) W) hn0 (fun _ _ => rfl) h16 (fun _ _ => rfl) L
    · by_cases hn : 65535 < num
      · exact lawCasts_big_long v xs num w hr (by omega) _ hcast _ (fun W => Mothers_no num (.inr hn) W) hn0 hn (fun _ _ => rfl) h16 (fun _ _ => rfl) L
      · obtain ⟨n, rfl⟩ : ∃ n : Nat, num = n := ⟨num.toNat, by omega⟩
        exact lawCasts_ok_long v xs n w hr (by omega) _ hcast _ (fun W => Mothers_yes n (by omega) W) hn0 hn (fun W => rMothers n (by omega) W) h16 (fun _ _ => rfl) L
end Go.Proofs.YtphnibllfpkkkaaDoor
