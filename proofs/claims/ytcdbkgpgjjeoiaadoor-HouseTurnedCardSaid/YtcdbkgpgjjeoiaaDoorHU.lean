/- Walks of package house: Partner; the errors of Stands and Partner. -/
import Derived.Test.YtcdbkgpgjjeoiaaDoorHT
import Derived.Test.YtcdbkgpgjjeoiaaDoorQD
namespace Go.Proofs.YtcdbkgpgjjeoiaaDoor
open Go Go.RowKit
set_option maxRecDepth 100000

theorem ln_par (f g : Nat) (hf : f < 16) (hg : g < 16) : ((f ^^^ g) % 2 = 0) ↔ ln f 0 = ln g 0 :=
  two16 (P := fun f g => ((f ^^^ g) % 2 = 0) ↔ ln f 0 = ln g 0) (by decide +kernel) f g hf hg
/-- The kinds of company that are named by B, before place k. -/
def orT (B : Nat → Bool) : Nat → Nat
  | 0 => 0
  | k + 1 => if B k then orT B k ||| 2 ^ k else orT B k
def howB (f g : Nat) : Nat → Bool
  | 0 => decide (f = g)
  | 1 => decide (f ≠ g ∧ rulN f = rulN g)
  | 2 => decide (f ^^^ g = 15)
  | _ => decide (f ≠ g ∧ (f ^^^ g) % 2 = 0)
theorem how_comp (f g : Nat) (hf : f < 16) (hg : g < 16) : orT (howB f g) 4 = compN f g :=
  two16 (P := fun f g => orT (howB f g) 4 = compN f g) (by decide +kernel) f g hf hg
theorem orT_lt (B : Nat → Bool) : ∀ k, orT B k < 2 ^ k
  | 0 => by simp [orT]
  | k + 1 => by
    have h := orT_lt B k
    have h2 : 2 ^ k < 2 ^ (k + 1) := Nat.pow_lt_pow_right (by omega) (by omega)
    unfold orT
    split
    · exact Nat.or_lt_two_pow (by omega) h2
    · omega
theorem how_cells (w : World) (B : Nat → Bool) (t : TypeId) (b0 b1 b2 b3 : Bool) (h0 : B 0 = b0) (h1 : B 1 = b1) (h2 : B 2 = b2) (h3 : B 3 = b3) (j : Nat) (hj : j < 4) :
    (w.alloc (.cells #[.int .i64 1, .bool b0, .int .i64 2, .bool b1, .int .i64 4, .bool b2, .int .i64 8, .bool b3] t)).cell? ⟨w.heap.size, j * 2, none⟩ = some (.int .i64 ((2 ^ j : Nat) : Int)) ∧
    (w.alloc (.cells #[.int .i64 1, .bool b0, .int .i64 2, .bool b1, .int .i64 4, .bool b2, .int .i64 8, .bool b3] t)).cell? ⟨w.heap.size, j * 2 + 1, none⟩ = some (.bool (B j)) := by
  subst h0 h1 h2 h3
  rw [cell_of_row _ _ _ _ _ (0, 0) (heap_alloc_new w _), cell_of_row _ _ _ _ _ (0, 0) (heap_alloc_new w _)]
  have h : j = 0 ∨ j = 1 ∨ j = 2 ∨ j = 3 := by omega
  rcases h with rfl | rfl | rfl | rfl <;> exact ⟨rfl, rfl⟩
theorem xor_lt16 {f g : Nat} (hf : f < 16) (hg : g < 16) : f ^^^ g < 16 := Nat.xor_lt_two_pow (n := 4) hf hg
set_option maxHeartbeats 800000 in
theorem stands_arg (S : Nat → Int) (hS : ¬ ∀ i, i < 12 → Fig (S i)) (x : Int) (w : World) :
    Calls Tryd.prog 11 #[.agg (irow 12 S), .int .i64 x] w fun e w' => e = .returned (.tuple #[.slice none 0 0, .int .i64 2]) ∧ Below w.heap.size w w' := by
  have HC := hid (fun W => hCheck_no S hS W)
  have H0 := hid (heap_alloc_new w (.cells (irow 12 S) 24))
  have hb : Below w.heap.size w (w.alloc (.cells (irow 12 S) 24)) := (Below.refl _ _).alloc (Nat.le_refl _) _
  clear hS
  go_enter Tryd.func11, Tryd.ntmps11
  go_wp2_with fail
  generalize w.alloc (.cells (irow 12 S) 24) = w1 at *
  go_wp2_with (first
    | (refine ldrow arrHouses _ rfl rfl _ rfl _ _ H0.out ?_)
    | (go_at_call 40; refine (HC.out _).mono ?_; rintro e w2 ⟨rfl, hb2⟩))
  go_ret2
  exact ⟨rfl, hb.trans (hb2.mono hb.size)⟩
set_option maxHeartbeats 800000 in
theorem stands_range (S : Nat → Int) (hS : ∀ i, i < 12 → Fig (S i)) (x : Int) (hx : ¬ Hou x) (w : World) :
    Calls Tryd.prog 11 #[.agg (irow 12 S), .int .i64 x] w fun e w' => e = .returned (.tuple #[.slice none 0 0, .int .i64 3]) ∧ Below w.heap.size w w' := by
  have HC := hid (fun W => hCheck_yes S hS W)
  have HN := hid (fun W => seats1_no x hx W)
  have H0 := hid (heap_alloc_new w (.cells (irow 12 S) 24))
  have hb : Below w.heap.size w (w.alloc (.cells (irow 12 S) 24)) := (Below.refl _ _).alloc (Nat.le_refl _) _
  clear hS hx
  go_enter Tryd.func11, Tryd.ntmps11
  go_wp2_with fail
  generalize w.alloc (.cells (irow 12 S) 24) = w1 at *
  go_wp2_with (first
    | (refine ldrow arrHouses _ rfl rfl _ rfl _ _ H0.out ?_)
    | (go_at_call 40; refine (HC.out _).mono ?_; rintro e w2 ⟨rfl, hb2⟩)
    | (go_at_call 46; refine (HN.out _).mono ?_; rintro e w3 ⟨rfl, hb3⟩))
  go_ret2
  have hB2 := hb.trans (hb2.mono hb.size)
  exact ⟨rfl, hB2.trans (hb3.mono hB2.size)⟩
set_option maxHeartbeats 800000 in
theorem partner_arg (S : Nat → Int) (hS : ¬ ∀ i, i < 12 → Fig (S i)) (x : Int) (w : World) :
    Calls Tryd.prog 12 #[.agg (irow 12 S), .int .i64 x] w fun e w' => e = .returned (.tuple #[.int .i64 0, .int .i64 0, .int .i64 2]) ∧ Below w.heap.size w w' := by
  have HC := hid (fun W => hCheck_no S hS W)
  have H0 := hid (heap_alloc_new w (.cells (irow 12 S) 24))
  have hb : Below w.heap.size w (w.alloc (.cells (irow 12 S) 24)) := (Below.refl _ _).alloc (Nat.le_refl _) _
  clear hS
  go_enter Tryd.func12, Tryd.ntmps12
  go_wp2_with fail
  generalize w.alloc (.cells (irow 12 S) 24) = w1 at *
  go_wp2_with (first
    | (refine ldrow arrHouses _ rfl rfl _ rfl _ _ H0.out ?_)
    | (go_at_call 40; refine (HC.out _).mono ?_; rintro e w2 ⟨rfl, hb2⟩))
  refine ret3 Tryd.results12 _ _ _ rfl rfl rfl rfl ?_
  exact ⟨rfl, hb.trans (hb2.mono hb.size)⟩
set_option maxHeartbeats 800000 in
theorem partner_range (S : Nat → Int) (hS : ∀ i, i < 12 → Fig (S i)) (x : Int) (hx : ¬ Hou x) (w : World) :
    Calls Tryd.prog 12 #[.agg (irow 12 S), .int .i64 x] w fun e w' => e = .returned (.tuple #[.int .i64 0, .int .i64 0, .int .i64 3]) ∧ Below w.heap.size w w' := by
  have HC := hid (fun W => hCheck_yes S hS W)
  have HN := hid (fun W => seats1_no x hx W)
  have H0 := hid (heap_alloc_new w (.cells (irow 12 S) 24))
  have hb : Below w.heap.size w (w.alloc (.cells (irow 12 S) 24)) := (Below.refl _ _).alloc (Nat.le_refl _) _
  clear hS hx
  go_enter Tryd.func12, Tryd.ntmps12
  go_wp2_with fail
  generalize w.alloc (.cells (irow 12 S) 24) = w1 at *
  go_wp2_with (first
    | (refine ldrow arrHouses _ rfl rfl _ rfl _ _ H0.out ?_)
    | (go_at_call 40; refine (HC.out _).mono ?_; rintro e w2 ⟨rfl, hb2⟩)
    | (go_at_call 46; refine (HN.out _).mono ?_; rintro e w3 ⟨rfl, hb3⟩))
  refine ret3 Tryd.results12 _ _ _ rfl rfl rfl rfl ?_
  have hB2 := hb.trans (hb2.mono hb.size)
  exact ⟨rfl, hB2.trans (hb3.mono hB2.size)⟩
set_option maxHeartbeats 4000000 in
theorem partner_c (h : Nat → Nat) (hh : ∀ i, i < 12 → h i < 16) (s : Nat) (hs : s < 12) (x : Int) (hx : x = ((s : Nat) : Int) + 1) (w : World) (LR : LaidR w) :
    Calls Tryd.prog 12 #[.agg (irow 12 (cst h)), .int .i64 x] w fun e w' => e = .returned (.tuple #[.int .i64 ((parN s + 1 : Nat) : Int), .int .i64 ((compN (h s) (h (parN s)) : Nat) : Int), .int .i64 0]) ∧ Below w.heap.size w w' := by
  have HC := hid (fun W => hCheck_yes (cst h) (fun i hi => ⟨by simp, by have := hh i hi; simp; omega⟩) W)
  have HN := hid (fun W => seats1_yes s hs x hx W)
  have H0 := hid (heap_alloc_new w (.cells (irow 12 (cst h)) 24))
  have hb : Below w.heap.size w (w.alloc (.cells (irow 12 (cst h)) 24)) := (Below.refl _ _).alloc (Nat.le_refl _) _
  have hp := (parN_bd s hs).1
  obtain ⟨q, hq⟩ : ∃ q, parN s = q := ⟨_, rfl⟩
  have hxq : bits .xor .i64 ((s : Nat) : Int) 1 = ((q : Nat) : Int) := by rw [← hq]; exact i64_xor s 1 (by omega) (by omega)
  rw [hq] at hp ⊢
  obtain ⟨f, hf⟩ : ∃ f, h s = f := ⟨_, rfl⟩
  obtain ⟨r, hr⟩ : ∃ r, h q = r := ⟨_, rfl⟩
  have hf16 : f < 16 := by rw [← hf]; exact hh s hs
  have hr16 : r < 16 := by rw [← hr]; exact hh q hp
  rw [hf, hr, ← how_comp f r hf16 hr16]
  have HCF := hid (fun (W : World) (hW : W.heap[w.heap.size]? = some (.cells (irow 12 (cst h)) 24 (0, 0))) => (show W.cell? ⟨w.heap.size, s, none⟩ = some (.int .i64 ((f : Nat) : Int)) from by rw [← hf]; exact cell_irow hW s hs))
  have HCR := hid (fun (W : World) (hW : W.heap[w.heap.size]? = some (.cells (irow 12 (cst h)) 24 (0, 0))) => (show W.cell? ⟨w.heap.size, q, none⟩ = some (.int .i64 ((r : Nat) : Int)) from by rw [← hr]; exact cell_irow hW q hp))
  have HLR := hid LR
  have HX := hid (house_c q (by omega))
  have hs0 : (0 : Int) ≤ s := by omega
  have hs1 : ((s : Nat) : Int) < 12 := by omega
  have hq0 : (0 : Int) ≤ q := by omega
  have hq1 : ((q : Nat) : Int) < 12 := by omega
  clear hh hx hq hf hr LR
  obtain ⟨g, hg⟩ : ∃ g, w.heap.size = g := ⟨_, rfl⟩
  go_enter Tryd.func12, Tryd.ntmps12
  go_wp2_with fail
  generalize w.alloc (.cells (irow 12 (cst h)) 24) = w1 at *
  rw [hg] at H0 hb HCF HCR
  go_wp2_with (first
    | (refine ldrow arrHouses _ rfl rfl _ rfl _ _ H0.out ?_)
    | (go_at_call 40; refine (HC.out _).mono ?_; rintro e w2 ⟨rfl, hb2⟩; have H2 := hid (heap_below hb2 H0.out (heap_lt H0.out)); have hB2 := hb.trans (hb2.mono (by have := hb.size; omega)))
    | (go_at_call 46; refine (HN.out _).mono ?_; rintro e w3 ⟨gs, cs, rfl, hc0, hgB, hgs, hb3⟩; have H3 := hid (heap_below hb3 H2.out (heap_lt H2.out)); have hB3 := hB2.trans (hb3.mono (by have := hB2.size; omega)); have c1 := HCF.out _ H3.out; have c2 := HCR.out _ H3.out))
  go_quiet (fail)
  go_wp2_with fail
  have hBw : Below g w (w3.drewN nq) := below_drewN hB3 _
  have r1 : (w3.drewN nq).cell? ⟨0, f, none⟩ = some (.int .i64 ((rulN f : Nat) : Int)) := (HLR.out.below (hg ▸ hBw)).cell f hf16
  have r2 : (w3.drewN nq).cell? ⟨0, r, none⟩ = some (.int .i64 ((rulN r : Nat) : Int)) := (HLR.out.below (hg ▸ hBw)).cell r hr16
  generalize w3.drewN nq = w4 at *
  have hf0 : (0 : Int) ≤ f := by omega
  have hf1 : ((f : Nat) : Int) < 16 := by omega
  have hr0 : (0 : Int) ≤ r := by omega
  have hr1 : ((r : Nat) : Int) < 16 := by omega
  have e2 := i64_xor f r (by omega) (by omega)
  have hz16 := xor_lt16 hf16 hr16
  have e4 := i64_and1 (f ^^^ r) (by omega)
  have hb2' : (((f ^^^ r : Nat) : Int) == 15) = howB f r 2 := by
    by_cases h : f ^^^ r = 15
    · simp [h, howB]
    · rw [show howB f r 2 = false by simp [howB, h]]; simp; omega
  have hb3' : ((((f ^^^ r) % 2 : Nat) : Int) == 0) = decide ((f ^^^ r) % 2 = 0) := by
    by_cases h : (f ^^^ r) % 2 = 0
    · simp [h]
    · rw [decide_eq_false h]; simp; omega
  have hb1' : (((rulN f : Nat) : Int) == ((rulN r : Nat) : Int)) = decide (rulN f = rulN r) := by
    by_cases h : rulN f = rulN r
    · simp [h]
    · rw [decide_eq_false h]; simp; omega
  have hq0' : howB f r 0 = decide (f = r) := rfl
  have hq1' : howB f r 1 = (!decide (f = r) && decide (rulN f = rulN r)) := by unfold howB; rw [Bool.decide_and]; simp
  have hq3' : howB f r 3 = (!decide (f = r) && decide ((f ^^^ r) % 2 = 0)) := by unfold howB; rw [Bool.decide_and]; simp
  have hb0' : (((f : Nat) : Int) == ((r : Nat) : Int)) = decide (f = r) := by
    by_cases h : f = r
    · simp [h]
    · rw [decide_eq_false h]; simp; omega
  have hn0' : (((f : Nat) : Int) != ((r : Nat) : Int)) = !decide (f = r) := by unfold bne; rw [hb0']
  obtain ⟨B, hBd⟩ : ∃ B, howB f r = B := ⟨_, rfl⟩
  rw [hBd] at hb2' hq0' hq1' hq3'
  have HBD := hid hBd
  clear hBd
  generalize (f ^^^ r) % 2 = z1 at *
  generalize f ^^^ r = z at *
  generalize rulN f = p1 at *
  generalize rulN r = p2 at *
  have HQ0 := hid hq0'
  have HQ1 := hid hq1'
  have HQ3 := hid hq3'
  generalize decide (z1 = 0) = d3 at *
  generalize decide (p1 = p2) = d1 at *
  generalize decide (f = r) = d0 at *
  generalize hBB2 : B 2 = d2 at *
  have HQ2 := hid hBB2
  clear hBB2 hq0' hq1' hq3' c1 c2 hb2 hb3 hc0 hxq hb hz16
  have HS4 := hid (show w4.drew.cell? ⟨0, f, none⟩ = some (.int .i64 ((p1 : Nat) : Int)) ∧ w4.drew.cell? ⟨0, r, none⟩ = some (.int .i64 ((p2 : Nat) : Int)) from ⟨r1, r2⟩)
  have hRG : 0 < w4.heap.size := Nat.lt_of_lt_of_le HLR.out.size (hg ▸ hBw.size)
  have KS := hid (fun cs => (show (w4.drew.alloc (.cells cs 117)).cell? ⟨0, f, none⟩ = some (.int .i64 ((p1 : Nat) : Int)) ∧ (w4.drew.alloc (.cells cs 117)).cell? ⟨0, r, none⟩ = some (.int .i64 ((p2 : Nat) : Int)) from ⟨((bcell ((Below.refl w4.drew.heap.size w4.drew).alloc (Nat.le_refl _) _)).1 _ _ hRG).trans r1, ((bcell ((Below.refl w4.drew.heap.size w4.drew).alloc (Nat.le_refl _) _)).1 _ _ hRG).trans r2⟩))
  cases d0
  · have hb0 : (((f : Nat) : Int) == ((r : Nat) : Int)) = false := hb0'
    have hn0 : (((f : Nat) : Int) != ((r : Nat) : Int)) = true := hn0'
    clear hb0' hn0'
    refine regD (fun W => W.cell? ⟨0, f, none⟩ = some (.int .i64 ((p1 : Nat) : Int)) ∧ W.cell? ⟨0, r, none⟩ = some (.int .i64 ((p2 : Nat) : Int))) (fun _ => true) (by kernel_rfl) ?_
    refine takeE (i := 0) (.int .i64 ((f : Nat) : Int)) (d := some 40) rfl (by kernel_rfl) (by kernel_rfl) (by kernel_rfl) (by kernel_rfl) (fun _ _ _ h => h) rfl (fun W hSw => by go_simp) (HS4.out) rfl ?_
    simp only [Act.put, List.setIfInBounds_toArray, List.set_cons_zero, List.set_cons_succ]
    refine takeE (i := 1) (.int .i64 ((r : Nat) : Int)) (d := some 41) rfl (by kernel_rfl) (by kernel_rfl) (by kernel_rfl) (by kernel_rfl) (fun _ _ _ h => h) rfl (fun W hSw => by go_simp) (HS4.out) rfl ?_
    simp only [Act.put, List.setIfInBounds_toArray, List.set_cons_zero, List.set_cons_succ]
    refine takeE (i := 2) (.bool false) (d := some 42) rfl (by kernel_rfl) (by kernel_rfl) (by kernel_rfl) (by kernel_rfl) (fun _ _ _ h => h) rfl (fun W hSw => by go_simp) (HS4.out) rfl ?_
    simp only [Act.put, List.setIfInBounds_toArray, List.set_cons_zero, List.set_cons_succ]
    refine takeE (i := 3) (.agg #[.int .i64 1, .bool false]) (d := some 43) rfl (by kernel_rfl) (by kernel_rfl) (by kernel_rfl) (by kernel_rfl) (fun _ _ _ h => h) rfl (fun W hSw => by go_simp) (HS4.out) rfl ?_
    simp only [Act.put, List.setIfInBounds_toArray, List.set_cons_zero, List.set_cons_succ]
    refine takeE (i := 4) (.int .i64 ((f : Nat) : Int)) (d := some 44) rfl (by kernel_rfl) (by kernel_rfl) (by kernel_rfl) (by kernel_rfl) (fun _ _ _ h => h) rfl (fun W hSw => by go_simp) (HS4.out) rfl ?_
    simp only [Act.put, List.setIfInBounds_toArray, List.set_cons_zero, List.set_cons_succ]
    refine takeE (i := 5) (.int .i64 ((r : Nat) : Int)) (d := some 45) rfl (by kernel_rfl) (by kernel_rfl) (by kernel_rfl) (by kernel_rfl) (fun _ _ _ h => h) rfl (fun W hSw => by go_simp) (HS4.out) rfl ?_
    simp only [Act.put, List.setIfInBounds_toArray, List.set_cons_zero, List.set_cons_succ]
    refine takeE (i := 6) (.bool true) (d := some 46) rfl (by kernel_rfl) (by kernel_rfl) (by kernel_rfl) (by kernel_rfl) (fun _ _ _ h => h) rfl (fun W hSw => by go_simp) (HS4.out) rfl ?_
    simp only [Act.put, List.setIfInBounds_toArray, List.set_cons_zero, List.set_cons_succ]
    refine takeE (i := 7) (.bool true) (d := some 47) rfl (by kernel_rfl) (by kernel_rfl) (by kernel_rfl) (by kernel_rfl) (fun _ _ _ h => h) rfl (fun W hSw => by go_simp) (HS4.out) rfl ?_
    simp only [Act.put, List.setIfInBounds_toArray, List.set_cons_zero, List.set_cons_succ]
    refine takeY (i := 8) (.int .i64 ((f : Nat) : Int)) (d := some 48) rfl (by kernel_rfl) (by kernel_rfl) (by kernel_rfl) (by kernel_rfl) (fun _ _ _ h => h) (by kernel_rfl) (fun W hSw => by go_simp) (HS4.out) rfl ?_
    simp only [Act.put, List.setIfInBounds_toArray, List.set_cons_zero, List.set_cons_succ]
    refine takeY (i := 9) (.pointer (some ⟨0, f, none⟩)) (d := some 49) rfl (by kernel_rfl) (by kernel_rfl) (by kernel_rfl) (by kernel_rfl) (fun _ _ _ h => h) (by kernel_rfl) (fun W hSw => by go_simp) (HS4.out) rfl ?_
    simp only [Act.put, List.setIfInBounds_toArray, List.set_cons_zero, List.set_cons_succ]
    refine takeY (i := 10) (.int .i64 ((p1 : Nat) : Int)) (d := some 50) rfl (by kernel_rfl) (by kernel_rfl) (by kernel_rfl) (by kernel_rfl) (fun _ _ _ h => h) (by kernel_rfl) (fun W hSw => by have hc := hSw.1; go_simp) (HS4.out) rfl ?_
    simp only [Act.put, List.setIfInBounds_toArray, List.set_cons_zero, List.set_cons_succ]
    refine takeY (i := 11) (.int .i64 ((r : Nat) : Int)) (d := some 51) rfl (by kernel_rfl) (by kernel_rfl) (by kernel_rfl) (by kernel_rfl) (fun _ _ _ h => h) (by kernel_rfl) (fun W hSw => by go_simp) (HS4.out) rfl ?_
    simp only [Act.put, List.setIfInBounds_toArray, List.set_cons_zero, List.set_cons_succ]
    refine takeY (i := 12) (.pointer (some ⟨0, r, none⟩)) (d := some 52) rfl (by kernel_rfl) (by kernel_rfl) (by kernel_rfl) (by kernel_rfl) (fun _ _ _ h => h) (by kernel_rfl) (fun W hSw => by go_simp) (HS4.out) rfl ?_
    simp only [Act.put, List.setIfInBounds_toArray, List.set_cons_zero, List.set_cons_succ]
    refine takeY (i := 13) (.int .i64 ((p2 : Nat) : Int)) (d := some 53) rfl (by kernel_rfl) (by kernel_rfl) (by kernel_rfl) (by kernel_rfl) (fun _ _ _ h => h) (by kernel_rfl) (fun W hSw => by have hc := hSw.2; go_simp) (HS4.out) rfl ?_
    simp only [Act.put, List.setIfInBounds_toArray, List.set_cons_zero, List.set_cons_succ]
    refine takeY (i := 14) (.bool d1) (d := some 54) rfl (by kernel_rfl) (by kernel_rfl) (by kernel_rfl) (by kernel_rfl) (fun _ _ _ h => h) (by kernel_rfl) (fun W hSw => by go_simp) (HS4.out) rfl ?_
    simp only [Act.put, List.setIfInBounds_toArray, List.set_cons_zero, List.set_cons_succ]
    refine takeE (i := 15) (.bool d1) (d := some 55) rfl (by kernel_rfl) (by kernel_rfl) (by kernel_rfl) (by kernel_rfl) (fun _ _ _ h => h) rfl (fun W hSw => by go_simp) (HS4.out) rfl ?_
    simp only [Act.put, List.setIfInBounds_toArray, List.set_cons_zero, List.set_cons_succ]
    refine takeE (i := 16) (.agg #[.int .i64 2, .bool d1]) (d := some 56) rfl (by kernel_rfl) (by kernel_rfl) (by kernel_rfl) (by kernel_rfl) (fun _ _ _ h => h) rfl (fun W hSw => by go_simp) (HS4.out) rfl ?_
    simp only [Act.put, List.setIfInBounds_toArray, List.set_cons_zero, List.set_cons_succ]
    refine takeE (i := 17) (.int .i64 ((f : Nat) : Int)) (d := some 57) rfl (by kernel_rfl) (by kernel_rfl) (by kernel_rfl) (by kernel_rfl) (fun _ _ _ h => h) rfl (fun W hSw => by go_simp) (HS4.out) rfl ?_
    simp only [Act.put, List.setIfInBounds_toArray, List.set_cons_zero, List.set_cons_succ]
    refine takeE (i := 18) (.int .i64 ((r : Nat) : Int)) (d := some 58) rfl (by kernel_rfl) (by kernel_rfl) (by kernel_rfl) (by kernel_rfl) (fun _ _ _ h => h) rfl (fun W hSw => by go_simp) (HS4.out) rfl ?_
    simp only [Act.put, List.setIfInBounds_toArray, List.set_cons_zero, List.set_cons_succ]
    refine takeE (i := 19) (.int .i64 ((z : Nat) : Int)) (d := some 59) rfl (by kernel_rfl) (by kernel_rfl) (by kernel_rfl) (by kernel_rfl) (fun _ _ _ h => h) rfl (fun W hSw => by go_simp) (HS4.out) rfl ?_
    simp only [Act.put, List.setIfInBounds_toArray, List.set_cons_zero, List.set_cons_succ]
    refine takeE (i := 20) (.bool d2) (d := some 60) rfl (by kernel_rfl) (by kernel_rfl) (by kernel_rfl) (by kernel_rfl) (fun _ _ _ h => h) rfl (fun W hSw => by go_simp) (HS4.out) rfl ?_
    simp only [Act.put, List.setIfInBounds_toArray, List.set_cons_zero, List.set_cons_succ]
    refine takeE (i := 21) (.agg #[.int .i64 4, .bool d2]) (d := some 61) rfl (by kernel_rfl) (by kernel_rfl) (by kernel_rfl) (by kernel_rfl) (fun _ _ _ h => h) rfl (fun W hSw => by go_simp) (HS4.out) rfl ?_
    simp only [Act.put, List.setIfInBounds_toArray, List.set_cons_zero, List.set_cons_succ]
    refine takeE (i := 22) (.int .i64 ((f : Nat) : Int)) (d := some 62) rfl (by kernel_rfl) (by kernel_rfl) (by kernel_rfl) (by kernel_rfl) (fun _ _ _ h => h) rfl (fun W hSw => by go_simp) (HS4.out) rfl ?_
    simp only [Act.put, List.setIfInBounds_toArray, List.set_cons_zero, List.set_cons_succ]
    refine takeE (i := 23) (.int .i64 ((r : Nat) : Int)) (d := some 63) rfl (by kernel_rfl) (by kernel_rfl) (by kernel_rfl) (by kernel_rfl) (fun _ _ _ h => h) rfl (fun W hSw => by go_simp) (HS4.out) rfl ?_
    simp only [Act.put, List.setIfInBounds_toArray, List.set_cons_zero, List.set_cons_succ]
    refine takeE (i := 24) (.bool true) (d := some 64) rfl (by kernel_rfl) (by kernel_rfl) (by kernel_rfl) (by kernel_rfl) (fun _ _ _ h => h) rfl (fun W hSw => by go_simp) (HS4.out) rfl ?_
    simp only [Act.put, List.setIfInBounds_toArray, List.set_cons_zero, List.set_cons_succ]
    refine takeE (i := 25) (.bool true) (d := some 65) rfl (by kernel_rfl) (by kernel_rfl) (by kernel_rfl) (by kernel_rfl) (fun _ _ _ h => h) rfl (fun W hSw => by go_simp) (HS4.out) rfl ?_
    simp only [Act.put, List.setIfInBounds_toArray, List.set_cons_zero, List.set_cons_succ]
    refine takeY (i := 26) (.int .i64 ((f : Nat) : Int)) (d := some 66) rfl (by kernel_rfl) (by kernel_rfl) (by kernel_rfl) (by kernel_rfl) (fun _ _ _ h => h) (by kernel_rfl) (fun W hSw => by go_simp) (HS4.out) rfl ?_
    simp only [Act.put, List.setIfInBounds_toArray, List.set_cons_zero, List.set_cons_succ]
    refine takeY (i := 27) (.int .i64 ((r : Nat) : Int)) (d := some 67) rfl (by kernel_rfl) (by kernel_rfl) (by kernel_rfl) (by kernel_rfl) (fun _ _ _ h => h) (by kernel_rfl) (fun W hSw => by go_simp) (HS4.out) rfl ?_
    simp only [Act.put, List.setIfInBounds_toArray, List.set_cons_zero, List.set_cons_succ]
    refine takeY (i := 28) (.int .i64 ((z : Nat) : Int)) (d := some 68) rfl (by kernel_rfl) (by kernel_rfl) (by kernel_rfl) (by kernel_rfl) (fun _ _ _ h => h) (by kernel_rfl) (fun W hSw => by go_simp) (HS4.out) rfl ?_
    simp only [Act.put, List.setIfInBounds_toArray, List.set_cons_zero, List.set_cons_succ]
    refine takeY (i := 29) (.int .i64 ((z1 : Nat) : Int)) (d := some 69) rfl (by kernel_rfl) (by kernel_rfl) (by kernel_rfl) (by kernel_rfl) (fun _ _ _ h => h) (by kernel_rfl) (fun W hSw => by go_simp) (HS4.out) rfl ?_
    simp only [Act.put, List.setIfInBounds_toArray, List.set_cons_zero, List.set_cons_succ]
    refine takeY (i := 30) (.bool d3) (d := some 70) rfl (by kernel_rfl) (by kernel_rfl) (by kernel_rfl) (by kernel_rfl) (fun _ _ _ h => h) (by kernel_rfl) (fun W hSw => by go_simp) (HS4.out) rfl ?_
    simp only [Act.put, List.setIfInBounds_toArray, List.set_cons_zero, List.set_cons_succ]
    refine takeE (i := 31) (.bool d3) (d := some 71) rfl (by kernel_rfl) (by kernel_rfl) (by kernel_rfl) (by kernel_rfl) (fun _ _ _ h => h) rfl (fun W hSw => by go_simp) (HS4.out) rfl ?_
    simp only [Act.put, List.setIfInBounds_toArray, List.set_cons_zero, List.set_cons_succ]
    refine takeE (i := 32) (.agg #[.int .i64 8, .bool d3]) (d := some 72) rfl (by kernel_rfl) (by kernel_rfl) (by kernel_rfl) (by kernel_rfl) (fun _ _ _ h => h) rfl (fun W hSw => by go_simp) (HS4.out) rfl ?_
    simp only [Act.put, List.setIfInBounds_toArray, List.set_cons_zero, List.set_cons_succ]
    refine takeE (i := 35) (.int .i64 0) (d := some 75) rfl (by kernel_rfl) (by kernel_rfl) (by kernel_rfl) (by kernel_rfl) (fun _ _ _ h => h) rfl (fun W hSw => by go_simp) (HS4.out) rfl ?_
    simp only [Act.put, List.setIfInBounds_toArray, List.set_cons_zero, List.set_cons_succ]
    refine stepD 33 (by kernel_rfl) rfl rfl (fun K hK => ?_)
    go_simp
    refine hK _ _ (fun _ => KS.out _) ?_
    clear hK K
    refine stepD 34 (by kernel_rfl) rfl rfl (fun K hK => ?_)
    go_simp
    refine hK _ _ (fun _ => KS.out _) ?_
    clear hK K
    refine doneD (by kernel_rfl) ?_ _
    refine OnlyNorm.normal ?_
    go_wp2_with fail
    have hcl := how_cells w4.drew B 117 false d1 d2 d3 HQ0.out (by simpa using HQ1.out) HQ2.out (by simpa using HQ3.out)
    have hBW := (below_drew hBw).alloc (show g ≤ w4.drew.heap.size from (by have := hBw.size; exact hg ▸ this)) (.cells #[.int .i64 1, .bool false, .int .i64 2, .bool d1, .int .i64 4, .bool d2, .int .i64 8, .bool d3] 117)
    have hGs : w4.drew.heap.size < (w4.drew.alloc (.cells #[.int .i64 1, .bool false, .int .i64 2, .bool d1, .int .i64 4, .bool d2, .int .i64 8, .bool d3] 117)).heap.size := by simp
    have hGe : w4.drew.heap.size = w4.heap.size := rfl
    rw [hGe] at hcl hGs
    obtain ⟨G, hG⟩ : ∃ G, w4.heap.size = G := ⟨_, rfl⟩
    clear r1 r2 HS4 KS e2 e4 hb0 hn0 hb1' hb2' hb3' hBw hGe
    rw [hG] at hcl hGs
    simp only [show ∀ o, w4.drew.alloc o = (w4.alloc o).drew from fun _ => rfl] at hcl hGs hBW
    generalize (w4.alloc (.cells #[.int .i64 1, .bool false, .int .i64 2, .bool d1, .int .i64 4, .bool d2, .int .i64 8, .bool d3] 117)).drew = w5 at *
    simp only [hG]
    have HCL := hid hcl
    clear hcl hG
    go_loopw [5, 75] (fun a i wr => ∃ k : Nat, k ≤ 4 ∧ i = .int .i64 k ∧ a = .int .i64 ((orT B k : Nat) : Int) ∧ Below w5.heap.size w5 wr ∧ Below g w wr) (fun _ i _ => 4 - (intOf i).toNat)
    case atStart => exact ⟨0, by omega, rfl, rfl, Below.refl _ _, hBW⟩
    case round =>
      obtain ⟨k, hk, rfl, rfl, h5, hB5⟩ := hrel
      have hs5 := h5.size
      have hsg := hB5.size
      by_cases hlt : k < 4
      · have hlt' : ((k : Nat) : Int) < 4 := by omega
        have hp0 : (0 : Int) ≤ k := by omega
        obtain ⟨cA, cB⟩ := HCL.out k hlt
        rw [← (bcell h5).1 G (k * 2) hGs] at cA
        rw [← (bcell h5).1 G (k * 2 + 1) hGs] at cB
        have ho := orT_lt B k
        have h2p : 2 ^ k ≤ 2 ^ 3 := Nat.pow_le_pow_right (by omega) (by omega)
        have hor := i64_or (orT B k) (2 ^ k) (by omega) (by omega)
        have HOS := hid (show orT B (k + 1) = if B k then orT B k ||| 2 ^ k else orT B k from rfl)
        generalize orT B k = o at *
        generalize 2 ^ k = p at *
        cases hBk : B k
        all_goals
          rw [hBk] at HOS cB
          clear hBk
          go_wp2_with fail
          go_roundw
          case rel => exact ⟨k + 1, by omega, by go_num, by have h9 := HOS.out; simp at h9; rw [h9], h5.trans (((Below.refl _ _).alloc (Nat.le_refl _) _).mono hs5), hB5.alloc (by omega) _⟩
          case measure => simp [intOf]; omega
      · have hge : ¬ ((k : Nat) : Int) < 4 := by omega
        obtain rfl : k = 4 := by omega
        obtain ⟨o, ho⟩ : ∃ o, orT B 4 = o := ⟨_, rfl⟩
        rw [ho]
        have HOO := hid ho
        clear ho
        go_wp2_with (go_at_call 50; refine (HX.out _).mono ?_; rintro e w' ⟨rfl, rfl⟩)
        refine ret3 Tryd.results12 _ _ _ rfl rfl rfl rfl ?_
        refine ⟨?_, hg ▸ hB5⟩
        rw [HBD.out, HOO.out]
        rfl
  · have hb0 : (((f : Nat) : Int) == ((r : Nat) : Int)) = true := hb0'
    have hn0 : (((f : Nat) : Int) != ((r : Nat) : Int)) = false := hn0'
    clear hb0' hn0'
    refine regD (fun W => W.cell? ⟨0, f, none⟩ = some (.int .i64 ((p1 : Nat) : Int)) ∧ W.cell? ⟨0, r, none⟩ = some (.int .i64 ((p2 : Nat) : Int))) (fun _ => true) (by kernel_rfl) ?_
    refine takeE (i := 0) (.int .i64 ((f : Nat) : Int)) (d := some 40) rfl (by kernel_rfl) (by kernel_rfl) (by kernel_rfl) (by kernel_rfl) (fun _ _ _ h => h) rfl (fun W hSw => by go_simp) (HS4.out) rfl ?_
    simp only [Act.put, List.setIfInBounds_toArray, List.set_cons_zero, List.set_cons_succ]
    refine takeE (i := 1) (.int .i64 ((r : Nat) : Int)) (d := some 41) rfl (by kernel_rfl) (by kernel_rfl) (by kernel_rfl) (by kernel_rfl) (fun _ _ _ h => h) rfl (fun W hSw => by go_simp) (HS4.out) rfl ?_
    simp only [Act.put, List.setIfInBounds_toArray, List.set_cons_zero, List.set_cons_succ]
    refine takeE (i := 2) (.bool true) (d := some 42) rfl (by kernel_rfl) (by kernel_rfl) (by kernel_rfl) (by kernel_rfl) (fun _ _ _ h => h) rfl (fun W hSw => by go_simp) (HS4.out) rfl ?_
    simp only [Act.put, List.setIfInBounds_toArray, List.set_cons_zero, List.set_cons_succ]
    refine takeE (i := 3) (.agg #[.int .i64 1, .bool true]) (d := some 43) rfl (by kernel_rfl) (by kernel_rfl) (by kernel_rfl) (by kernel_rfl) (fun _ _ _ h => h) rfl (fun W hSw => by go_simp) (HS4.out) rfl ?_
    simp only [Act.put, List.setIfInBounds_toArray, List.set_cons_zero, List.set_cons_succ]
    refine takeE (i := 4) (.int .i64 ((f : Nat) : Int)) (d := some 44) rfl (by kernel_rfl) (by kernel_rfl) (by kernel_rfl) (by kernel_rfl) (fun _ _ _ h => h) rfl (fun W hSw => by go_simp) (HS4.out) rfl ?_
    simp only [Act.put, List.setIfInBounds_toArray, List.set_cons_zero, List.set_cons_succ]
    refine takeE (i := 5) (.int .i64 ((r : Nat) : Int)) (d := some 45) rfl (by kernel_rfl) (by kernel_rfl) (by kernel_rfl) (by kernel_rfl) (fun _ _ _ h => h) rfl (fun W hSw => by go_simp) (HS4.out) rfl ?_
    simp only [Act.put, List.setIfInBounds_toArray, List.set_cons_zero, List.set_cons_succ]
    refine takeE (i := 6) (.bool false) (d := some 46) rfl (by kernel_rfl) (by kernel_rfl) (by kernel_rfl) (by kernel_rfl) (fun _ _ _ h => h) rfl (fun W hSw => by go_simp) (HS4.out) rfl ?_
    simp only [Act.put, List.setIfInBounds_toArray, List.set_cons_zero, List.set_cons_succ]
    refine takeE (i := 7) (.bool false) (d := some 47) rfl (by kernel_rfl) (by kernel_rfl) (by kernel_rfl) (by kernel_rfl) (fun _ _ _ h => h) rfl (fun W hSw => by go_simp) (HS4.out) rfl ?_
    simp only [Act.put, List.setIfInBounds_toArray, List.set_cons_zero, List.set_cons_succ]
    refine takeN (i := 8) (d := some 48) rfl (by kernel_rfl) (by kernel_rfl) (by kernel_rfl) (by kernel_rfl) (fun _ _ _ h => h) (by kernel_rfl) (HS4.out) rfl ?_
    simp only [Act.put, List.setIfInBounds_toArray, List.set_cons_zero, List.set_cons_succ]
    refine takeN (i := 9) (d := some 49) rfl (by kernel_rfl) (by kernel_rfl) (by kernel_rfl) (by kernel_rfl) (fun _ _ _ h => h) (by kernel_rfl) (HS4.out) rfl ?_
    simp only [Act.put, List.setIfInBounds_toArray, List.set_cons_zero, List.set_cons_succ]
    refine takeN (i := 10) (d := some 50) rfl (by kernel_rfl) (by kernel_rfl) (by kernel_rfl) (by kernel_rfl) (fun _ _ _ h => h) (by kernel_rfl) (HS4.out) rfl ?_
    simp only [Act.put, List.setIfInBounds_toArray, List.set_cons_zero, List.set_cons_succ]
    refine takeN (i := 11) (d := some 51) rfl (by kernel_rfl) (by kernel_rfl) (by kernel_rfl) (by kernel_rfl) (fun _ _ _ h => h) (by kernel_rfl) (HS4.out) rfl ?_
    simp only [Act.put, List.setIfInBounds_toArray, List.set_cons_zero, List.set_cons_succ]
    refine takeN (i := 12) (d := some 52) rfl (by kernel_rfl) (by kernel_rfl) (by kernel_rfl) (by kernel_rfl) (fun _ _ _ h => h) (by kernel_rfl) (HS4.out) rfl ?_
    simp only [Act.put, List.setIfInBounds_toArray, List.set_cons_zero, List.set_cons_succ]
    refine takeN (i := 13) (d := some 53) rfl (by kernel_rfl) (by kernel_rfl) (by kernel_rfl) (by kernel_rfl) (fun _ _ _ h => h) (by kernel_rfl) (HS4.out) rfl ?_
    simp only [Act.put, List.setIfInBounds_toArray, List.set_cons_zero, List.set_cons_succ]
    refine takeN (i := 14) (d := some 54) rfl (by kernel_rfl) (by kernel_rfl) (by kernel_rfl) (by kernel_rfl) (fun _ _ _ h => h) (by kernel_rfl) (HS4.out) rfl ?_
    simp only [Act.put, List.setIfInBounds_toArray, List.set_cons_zero, List.set_cons_succ]
    refine takeE (i := 15) (.bool false) (d := some 55) rfl (by kernel_rfl) (by kernel_rfl) (by kernel_rfl) (by kernel_rfl) (fun _ _ _ h => h) rfl (fun W hSw => by go_simp) (HS4.out) rfl ?_
    simp only [Act.put, List.setIfInBounds_toArray, List.set_cons_zero, List.set_cons_succ]
    refine takeE (i := 16) (.agg #[.int .i64 2, .bool false]) (d := some 56) rfl (by kernel_rfl) (by kernel_rfl) (by kernel_rfl) (by kernel_rfl) (fun _ _ _ h => h) rfl (fun W hSw => by go_simp) (HS4.out) rfl ?_
    simp only [Act.put, List.setIfInBounds_toArray, List.set_cons_zero, List.set_cons_succ]
    refine takeE (i := 17) (.int .i64 ((f : Nat) : Int)) (d := some 57) rfl (by kernel_rfl) (by kernel_rfl) (by kernel_rfl) (by kernel_rfl) (fun _ _ _ h => h) rfl (fun W hSw => by go_simp) (HS4.out) rfl ?_
    simp only [Act.put, List.setIfInBounds_toArray, List.set_cons_zero, List.set_cons_succ]
    refine takeE (i := 18) (.int .i64 ((r : Nat) : Int)) (d := some 58) rfl (by kernel_rfl) (by kernel_rfl) (by kernel_rfl) (by kernel_rfl) (fun _ _ _ h => h) rfl (fun W hSw => by go_simp) (HS4.out) rfl ?_
    simp only [Act.put, List.setIfInBounds_toArray, List.set_cons_zero, List.set_cons_succ]
    refine takeE (i := 19) (.int .i64 ((z : Nat) : Int)) (d := some 59) rfl (by kernel_rfl) (by kernel_rfl) (by kernel_rfl) (by kernel_rfl) (fun _ _ _ h => h) rfl (fun W hSw => by go_simp) (HS4.out) rfl ?_
    simp only [Act.put, List.setIfInBounds_toArray, List.set_cons_zero, List.set_cons_succ]
    refine takeE (i := 20) (.bool d2) (d := some 60) rfl (by kernel_rfl) (by kernel_rfl) (by kernel_rfl) (by kernel_rfl) (fun _ _ _ h => h) rfl (fun W hSw => by go_simp) (HS4.out) rfl ?_
    simp only [Act.put, List.setIfInBounds_toArray, List.set_cons_zero, List.set_cons_succ]
    refine takeE (i := 21) (.agg #[.int .i64 4, .bool d2]) (d := some 61) rfl (by kernel_rfl) (by kernel_rfl) (by kernel_rfl) (by kernel_rfl) (fun _ _ _ h => h) rfl (fun W hSw => by go_simp) (HS4.out) rfl ?_
    simp only [Act.put, List.setIfInBounds_toArray, List.set_cons_zero, List.set_cons_succ]
    refine takeE (i := 22) (.int .i64 ((f : Nat) : Int)) (d := some 62) rfl (by kernel_rfl) (by kernel_rfl) (by kernel_rfl) (by kernel_rfl) (fun _ _ _ h => h) rfl (fun W hSw => by go_simp) (HS4.out) rfl ?_
    simp only [Act.put, List.setIfInBounds_toArray, List.set_cons_zero, List.set_cons_succ]
    refine takeE (i := 23) (.int .i64 ((r : Nat) : Int)) (d := some 63) rfl (by kernel_rfl) (by kernel_rfl) (by kernel_rfl) (by kernel_rfl) (fun _ _ _ h => h) rfl (fun W hSw => by go_simp) (HS4.out) rfl ?_
    simp only [Act.put, List.setIfInBounds_toArray, List.set_cons_zero, List.set_cons_succ]
    refine takeE (i := 24) (.bool false) (d := some 64) rfl (by kernel_rfl) (by kernel_rfl) (by kernel_rfl) (by kernel_rfl) (fun _ _ _ h => h) rfl (fun W hSw => by go_simp) (HS4.out) rfl ?_
    simp only [Act.put, List.setIfInBounds_toArray, List.set_cons_zero, List.set_cons_succ]
    refine takeE (i := 25) (.bool false) (d := some 65) rfl (by kernel_rfl) (by kernel_rfl) (by kernel_rfl) (by kernel_rfl) (fun _ _ _ h => h) rfl (fun W hSw => by go_simp) (HS4.out) rfl ?_
    simp only [Act.put, List.setIfInBounds_toArray, List.set_cons_zero, List.set_cons_succ]
    refine takeN (i := 26) (d := some 66) rfl (by kernel_rfl) (by kernel_rfl) (by kernel_rfl) (by kernel_rfl) (fun _ _ _ h => h) (by kernel_rfl) (HS4.out) rfl ?_
    simp only [Act.put, List.setIfInBounds_toArray, List.set_cons_zero, List.set_cons_succ]
    refine takeN (i := 27) (d := some 67) rfl (by kernel_rfl) (by kernel_rfl) (by kernel_rfl) (by kernel_rfl) (fun _ _ _ h => h) (by kernel_rfl) (HS4.out) rfl ?_
    simp only [Act.put, List.setIfInBounds_toArray, List.set_cons_zero, List.set_cons_succ]
    refine takeN (i := 28) (d := some 68) rfl (by kernel_rfl) (by kernel_rfl) (by kernel_rfl) (by kernel_rfl) (fun _ _ _ h => h) (by kernel_rfl) (HS4.out) rfl ?_
    simp only [Act.put, List.setIfInBounds_toArray, List.set_cons_zero, List.set_cons_succ]
    refine takeN (i := 29) (d := some 69) rfl (by kernel_rfl) (by kernel_rfl) (by kernel_rfl) (by kernel_rfl) (fun _ _ _ h => h) (by kernel_rfl) (HS4.out) rfl ?_
    simp only [Act.put, List.setIfInBounds_toArray, List.set_cons_zero, List.set_cons_succ]
    refine takeN (i := 30) (d := some 70) rfl (by kernel_rfl) (by kernel_rfl) (by kernel_rfl) (by kernel_rfl) (fun _ _ _ h => h) (by kernel_rfl) (HS4.out) rfl ?_
    simp only [Act.put, List.setIfInBounds_toArray, List.set_cons_zero, List.set_cons_succ]
    refine takeE (i := 31) (.bool false) (d := some 71) rfl (by kernel_rfl) (by kernel_rfl) (by kernel_rfl) (by kernel_rfl) (fun _ _ _ h => h) rfl (fun W hSw => by go_simp) (HS4.out) rfl ?_
    simp only [Act.put, List.setIfInBounds_toArray, List.set_cons_zero, List.set_cons_succ]
    refine takeE (i := 32) (.agg #[.int .i64 8, .bool false]) (d := some 72) rfl (by kernel_rfl) (by kernel_rfl) (by kernel_rfl) (by kernel_rfl) (fun _ _ _ h => h) rfl (fun W hSw => by go_simp) (HS4.out) rfl ?_
    simp only [Act.put, List.setIfInBounds_toArray, List.set_cons_zero, List.set_cons_succ]
    refine takeE (i := 35) (.int .i64 0) (d := some 75) rfl (by kernel_rfl) (by kernel_rfl) (by kernel_rfl) (by kernel_rfl) (fun _ _ _ h => h) rfl (fun W hSw => by go_simp) (HS4.out) rfl ?_
    simp only [Act.put, List.setIfInBounds_toArray, List.set_cons_zero, List.set_cons_succ]
    refine stepD 33 (by kernel_rfl) rfl rfl (fun K hK => ?_)
    go_simp
    refine hK _ _ (fun _ => KS.out _) ?_
    clear hK K
    refine stepD 34 (by kernel_rfl) rfl rfl (fun K hK => ?_)
    go_simp
    refine hK _ _ (fun _ => KS.out _) ?_
    clear hK K
    refine doneD (by kernel_rfl) ?_ _
    refine OnlyNorm.normal ?_
    go_wp2_with fail
    have hcl := how_cells w4.drew B 117 true false d2 false HQ0.out (by simpa using HQ1.out) HQ2.out (by simpa using HQ3.out)
    have hBW := (below_drew hBw).alloc (show g ≤ w4.drew.heap.size from (by have := hBw.size; exact hg ▸ this)) (.cells #[.int .i64 1, .bool true, .int .i64 2, .bool false, .int .i64 4, .bool d2, .int .i64 8, .bool false] 117)
    have hGs : w4.drew.heap.size < (w4.drew.alloc (.cells #[.int .i64 1, .bool true, .int .i64 2, .bool false, .int .i64 4, .bool d2, .int .i64 8, .bool false] 117)).heap.size := by simp
    have hGe : w4.drew.heap.size = w4.heap.size := rfl
    rw [hGe] at hcl hGs
    obtain ⟨G, hG⟩ : ∃ G, w4.heap.size = G := ⟨_, rfl⟩
    clear r1 r2 HS4 KS e2 e4 hb0 hn0 hb1' hb2' hb3' hBw hGe
    rw [hG] at hcl hGs
    simp only [show ∀ o, w4.drew.alloc o = (w4.alloc o).drew from fun _ => rfl] at hcl hGs hBW
    generalize (w4.alloc (.cells #[.int .i64 1, .bool true, .int .i64 2, .bool false, .int .i64 4, .bool d2, .int .i64 8, .bool false] 117)).drew = w5 at *
    simp only [hG]
    have HCL := hid hcl
    clear hcl hG
    go_loopw [5, 75] (fun a i wr => ∃ k : Nat, k ≤ 4 ∧ i = .int .i64 k ∧ a = .int .i64 ((orT B k : Nat) : Int) ∧ Below w5.heap.size w5 wr ∧ Below g w wr) (fun _ i _ => 4 - (intOf i).toNat)
    case atStart => exact ⟨0, by omega, rfl, rfl, Below.refl _ _, hBW⟩
    case round =>
      obtain ⟨k, hk, rfl, rfl, h5, hB5⟩ := hrel
      have hs5 := h5.size
      have hsg := hB5.size
      by_cases hlt : k < 4
      · have hlt' : ((k : Nat) : Int) < 4 := by omega
        have hp0 : (0 : Int) ≤ k := by omega
        obtain ⟨cA, cB⟩ := HCL.out k hlt
        rw [← (bcell h5).1 G (k * 2) hGs] at cA
        rw [← (bcell h5).1 G (k * 2 + 1) hGs] at cB
        have ho := orT_lt B k
        have h2p : 2 ^ k ≤ 2 ^ 3 := Nat.pow_le_pow_right (by omega) (by omega)
        have hor := i64_or (orT B k) (2 ^ k) (by omega) (by omega)
        have HOS := hid (show orT B (k + 1) = if B k then orT B k ||| 2 ^ k else orT B k from rfl)
        generalize orT B k = o at *
        generalize 2 ^ k = p at *
        cases hBk : B k
        all_goals
          rw [hBk] at HOS cB
          clear hBk
          go_wp2_with fail
          go_roundw
          case rel => exact ⟨k + 1, by omega, by go_num, by have h9 := HOS.out; simp at h9; rw [h9], h5.trans (((Below.refl _ _).alloc (Nat.le_refl _) _).mono hs5), hB5.alloc (by omega) _⟩
          case measure => simp [intOf]; omega
      · have hge : ¬ ((k : Nat) : Int) < 4 := by omega
        obtain rfl : k = 4 := by omega
        obtain ⟨o, ho⟩ : ∃ o, orT B 4 = o := ⟨_, rfl⟩
        rw [ho]
        have HOO := hid ho
        clear ho
        go_wp2_with (go_at_call 50; refine (HX.out _).mono ?_; rintro e w' ⟨rfl, rfl⟩)
        refine ret3 Tryd.results12 _ _ _ rfl rfl rfl rfl ?_
        refine ⟨?_, hg ▸ hB5⟩
        rw [HBD.out, HOO.out]
        rfl
end Go.Proofs.YtcdbkgpgjjeoiaaDoor
