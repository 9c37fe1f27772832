/- Walks of the laws of chapter 5: two lists of numbers compared. -/
import Derived.Test.YtcdbkgpgjjeoiaaDoorSm
import Derived.Test.YtcdbkgpgjjeoiaaDoorHG
import Derived.Test.YtcdbkgpgjjeoiaaDoorHS
import Derived.Test.YtcdbkgpgjjeoiaaDoorHU
namespace Go.Proofs.YtcdbkgpgjjeoiaaDoor
open Go Go.RowKit
set_option maxRecDepth 100000
set_option linter.unusedSimpArgs false
set_option linter.unusedVariables false

set_option maxHeartbeats 400000 in
theorem same5_len (a b : Option Addr) (n m c d : Nat) (_hn : n ≤ 9223372036854775807) (_hm : m ≤ 9223372036854775807) (h : n ≠ m) (w : World) :
    Calls Tryd.prog 18 #[.slice a n c, .slice b m d] w fun e w' => e = .returned (.bool false) ∧ w = w' := by
  have h' : (((n : Nat) : Int) != ((m : Nat) : Int)) = true := by simp; omega
  clear h
  go_enter Tryd.func18, Tryd.ntmps18
  go_wp2_with fail
  go_ret
  exact ⟨rfl, rfl⟩

set_option maxHeartbeats 400000 in
theorem same5_zero (a b : Option Addr) (c d : Nat) (w : World) :
    Calls Tryd.prog 18 #[.slice a 0 c, .slice b 0 d] w fun e w' => e = .returned (.bool true) ∧ w = w' := by
  go_enter Tryd.func18, Tryd.ntmps18
  go_wp2_with fail
  go_loop [5] (fun i => i = .int .i64 0) (fun _ => 0)
  case atStart => rfl
  case round =>
    subst hrel
    go_wp2_with fail
    go_ret
    exact ⟨rfl, rfl⟩

set_option maxHeartbeats 400000 in
theorem same5_eq (g o g' o' c d N : Nat) (xs ys : List Int) (w : World) (hN : N ≤ 9223372036854775807) (hx : xs.length = N) (hy : ys.length = N)
    (h1 : ∀ k, k < N → w.cell? ⟨g, o + k, none⟩ = some (.int .i64 (xs.getD k 0))) (h2 : ∀ k, k < N → w.cell? ⟨g', o' + k, none⟩ = some (.int .i64 (ys.getD k 0))) :
    Calls Tryd.prog 18 #[.slice (some ⟨g, o, none⟩) N c, .slice (some ⟨g', o', none⟩) N d] w fun e w' => e = .returned (.bool (decide (xs = ys))) ∧ Below w.heap.size w w' := by
  have H1 := hid h1
  have H2 := hid h2
  have HX := hid hx
  have HY := hid hy
  clear h1 h2 hx hy
  have hne : (((N : Nat) : Int) != ((N : Nat) : Int)) = false := by simp
  go_enter Tryd.func18, Tryd.ntmps18
  go_wp2_with fail
  go_loopw [5] (fun i wr => ∃ k n : Nat, k ≤ N ∧ i = .int .i64 k ∧ wr = w.drewN n ∧ Aside (∀ j, j < k → xs.getD j 0 = ys.getD j 0)) (fun i _ => N - (intOf i).toNat)
  case atStart => exact ⟨0, 0, by omega, rfl, rfl, fun j h => absurd h (by omega)⟩
  case round =>
    obtain ⟨k, n, hk, rfl, rfl, A⟩ := hrel
    by_cases hlt : k < N
    · have hlt' : (k : Int) < N := by omega
      have hp0 : (0 : Int) ≤ k := by omega
      have c1 := H1.out k hlt
      have c2 := H2.out k hlt
      by_cases he : xs.getD k 0 = ys.getD k 0
      · have A2 := hid (show ∀ j, j < k + 1 → xs.getD j 0 = ys.getD j 0 from fun j h => by
          by_cases e : j = k
          · subst e; exact he
          · exact A.out j (by omega))
        generalize xs.getD k 0 = x at *
        generalize ys.getD k 0 = y at *
        subst he
        have hb : (x != x) = false := by simp
        go_wp2_with fail
        go_quiet (fail)
        go_wp2_with fail
        go_roundw
        case rel => exact ⟨k + 1, n + nq, by omega, by go_num, rfl, A2.out⟩
        case measure => simp [intOf]; omega
      · have hfin : decide (xs = ys) = false := by
          rw [decide_eq_false_iff_not]
          intro e; subst e; exact he rfl
        have Hfin := hid hfin
        generalize xs.getD k 0 = x at *
        generalize ys.getD k 0 = y at *
        have hb : (x != y) = true := by simp [he]
        clear hfin he
        go_wp2_with fail
        go_quiet (fail)
        go_wp2_with fail
        go_ret
        exact ⟨by rw [Hfin.out]; rfl, below_drewN (below_drewN (Below.refl _ _) _) _⟩
    · have hge : ¬ (k : Int) < N := by omega
      obtain rfl : k = N := by omega
      have hfin : decide (xs = ys) = true := by
        rw [decide_eq_true_iff]
        refine List.ext_getElem (by rw [HX.out, HY.out]) fun j h' h'' => ?_
        have := A.out j (by rw [← HX.out]; exact h')
        rwa [getD_lt _ _ h', getD_lt _ _ h''] at this
      have Hfin := hid hfin
      clear hfin
      go_wp2_with fail
      go_ret
      exact ⟨by rw [Hfin.out]; rfl, below_drewN (Below.refl _ _) _⟩

/-- Two slices that read as lists. -/
theorem same5_c (va vb : Value) (xs ys : List Int) (w : World) (ha : Reads w va xs) (hb : Reads w vb ys) (hx : xs.length ≤ 9223372036854775807) (hy : ys.length ≤ 9223372036854775807) :
    Calls Tryd.prog 18 #[va, vb] w fun e w' => e = .returned (.bool (decide (xs = ys))) ∧ Below w.heap.size w w' := by
  by_cases hl : xs.length = ys.length
  · rcases ha with ⟨rfl, a, c, rfl⟩ | ⟨g, o, c, rfl, _, h1⟩
    · rcases hb with ⟨rfl, b, d, rfl⟩ | ⟨g', o', d, rfl, _, h2⟩
      · exact (same5_zero a b c d w).mono fun e w' ⟨he, hw⟩ => ⟨by rw [he]; rfl, hw ▸ Below.refl _ _⟩
      · obtain rfl : ys = [] := List.eq_nil_of_length_eq_zero hl.symm
        exact (same5_zero a _ c d w).mono fun e w' ⟨he, hw⟩ => ⟨by rw [he]; rfl, hw ▸ Below.refl _ _⟩
    · rcases hb with ⟨rfl, b, d, rfl⟩ | ⟨g', o', d, rfl, _, h2⟩
      · obtain rfl : xs = [] := List.eq_nil_of_length_eq_zero hl
        exact (same5_zero _ b c d w).mono fun e w' ⟨he, hw⟩ => ⟨by rw [he]; rfl, hw ▸ Below.refl _ _⟩
      · rw [← hl]
        exact same5_eq g o g' o' c d _ xs ys w hx rfl hl.symm (fun k hk => by rw [getD_lt _ _ hk]; exact h1 k hk) (fun k hk => by rw [getD_lt _ _ (by omega)]; exact h2 k (by omega))
  · have hfin : decide (xs = ys) = false := by rw [decide_eq_false_iff_not]; rintro rfl; exact hl rfl
    rw [hfin]
    have hv : ∀ {v : Value} {zs : List Int}, Reads w v zs → ∃ a c, v = .slice a zs.length c := fun h => by
      rcases h with ⟨rfl, a, c, h⟩ | ⟨g, o, c, h, _⟩
      · exact ⟨a, c, h⟩
      · exact ⟨_, c, h⟩
    obtain ⟨a, c, rfl⟩ := hv ha
    obtain ⟨b, d, rfl⟩ := hv hb
    exact (same5_len a b _ _ c d hx hy hl w).mono fun e w' ⟨he, hw⟩ => ⟨he, hw ▸ Below.refl _ _⟩
end Go.Proofs.YtcdbkgpgjjeoiaaDoor
/- Walks of the laws of chapter 5: four, known. -/
namespace Go.Proofs.YtcdbkgpgjjeoiaaDoor
open Go Go.RowKit
set_option maxRecDepth 100000
set_option linter.unusedSimpArgs false
set_option linter.unusedVariables false

/-- The tables of this chapter as they lie. -/
structure LaidH (w : World) : Prop where
  B : LaidB w
  R : LaidR w
theorem LaidH.below {w w' : World} (h : LaidH w) (hb : Below w.heap.size w w') : LaidH w' := ⟨h.B.below hb, h.R.below hb⟩
structure LaidP (w : World) : Prop where
  L : Laid w
  H : LaidH w
/-- The houses of the document's first example. -/
def fourF : Nat → Nat := fun i => [1, 2, 9, 11, 13, 10, 0, 12, 3, 2, 7, 12].getD i 0
theorem four_lit : (#[.int .i64 1, .int .i64 2, .int .i64 9, .int .i64 11, .int .i64 13, .int .i64 10, .int .i64 0, .int .i64 12, .int .i64 3, .int .i64 2, .int .i64 7, .int .i64 12] : Array Value) = irow 12 (cst fourF) := rfl
theorem four_lt : ∀ i, i < 12 → fourF i < 16 := fun i hi => by
  have : ∀ i : Fin 12, fourF i < 16 := by decide
  exact this ⟨i, hi⟩
theorem four_c (w : World) : Calls Tryd.prog 51 #[] w fun e w' => e = .returned (.agg (irow 12 (cst fourF))) ∧ Below w.heap.size w w' := by
  go_enter Tryd.func51, Tryd.ntmps51
  go_wp2_with fail
  rw [four_lit]
  exact retrow arrHouses Tryd.results51 w.heap.size _ _ rfl (heap_alloc_new w _) rfl ⟨rfl, (Below.refl _ _).alloc (Nat.le_refl _) _⟩
theorem same5_true (va vb : Value) (xs : List Int) (w : World) (ha : Reads w va xs) (hb : Reads w vb xs) (hx : xs.length ≤ 9223372036854775807) :
    Calls Tryd.prog 18 #[va, vb] w fun e w' => e = .returned (.bool true) ∧ Below w.heap.size w w' :=
  (same5_c va vb xs xs w ha hb hx hx).mono fun e w' ⟨he, hw⟩ => ⟨by rw [he]; simp, hw⟩
theorem reads2h (W : World) (a b : Int) : Reads (W.alloc (.cells #[.int .i64 a, .int .i64 b] 3)) (.slice (some ⟨W.heap.size, 0, none⟩) 2 2) [a, b] := by
  refine .inr ⟨W.heap.size, 0, 2, rfl, by simp, fun k hk => ?_⟩
  have hk4 : k < 2 := hk
  rw [Nat.zero_add, cell_of_row _ _ k _ _ (0, 0) (heap_alloc_new W _)]
  have : k = 0 ∨ k = 1 := by omega
  rcases this with rfl | rfl <;> rfl
theorem k_ties : tiesR fourF 0 9 = [(2, 0, 1)] := by decide +kernel
theorem k_asps : aspR fourF 9 3 = [(2, 1, 3), (6, 9, 3)] := by decide +kernel
theorem k_judge : judgeN fourF 2 5 = 4 := by decide +kernel
theorem k_mks : mks fourF 12 = 74 := by decide +kernel
theorem k_par : parN 6 + 1 = 8 ∧ compN (fourF 6) (fourF (parN 6)) = 8 := by decide +kernel
theorem k_sta : staL fourF 7 = [8, 12] := by decide +kernel
theorem k_tie {W : World} {v : Value} (h : ReadsT W v [(2, 0, 1)]) : ∃ G c, v = .slice (some ⟨G, 0, none⟩) 1 c ∧ W.cell? ⟨G, 0, none⟩ = some (.int .i64 2) ∧ W.cell? ⟨G, 1, none⟩ = some (.int .i64 1) ∧ W.cell? ⟨G, 2, none⟩ = some (.int .i64 2) := by
  obtain ⟨G, c, h1, h2, h3⟩ := readT_some h
  have c0 := readT_cell h3 0 (by decide)
  exact ⟨G, c, h1, c0.1, c0.2.1, c0.2.2⟩
theorem k_asp {W : World} {v : Value} (h : ReadsT W v [(2, 1, 3), (6, 9, 3)]) : ∃ G c, v = .slice (some ⟨G, 0, none⟩) 2 c ∧ W.cell? ⟨G, 0, none⟩ = some (.int .i64 2) ∧ W.cell? ⟨G, 1, none⟩ = some (.int .i64 2) ∧ W.cell? ⟨G, 2, none⟩ = some (.int .i64 4) ∧
    W.cell? ⟨G, 3, none⟩ = some (.int .i64 6) ∧ W.cell? ⟨G, 4, none⟩ = some (.int .i64 10) ∧ W.cell? ⟨G, 5, none⟩ = some (.int .i64 4) := by
  obtain ⟨G, c, h1, h2, h3⟩ := readT_some h
  have c0 := readT_cell h3 0 (by decide)
  have c1 := readT_cell h3 1 (by decide)
  exact ⟨G, c, h1, c0.1, c0.2.1, c0.2.2, c1.1, c1.2.1, c1.2.2⟩
set_option maxHeartbeats 4000000 in
theorem hknown_c (w : World) (LH : LaidH w) : Calls Tryd.prog 15 #[] w fun e w' => e = .returned (.bool true) ∧ Below w.heap.size w w' := by
  have HT := hid (fun W (hW : Below w.heap.size w W) => Ties_h_ok fourF four_lt 0 9 (by omega) (by omega) (by omega) 1 10 rfl rfl W (LH.B.below hW))
  have HA := hid (fun W (hW : Below w.heap.size w W) => Aspects_h_ok fourF four_lt 9 3 (by omega) (by omega) (by omega) 10 4 rfl rfl W (LH.B.below hW))
  have HJ := hid (fun W (hW : Below w.heap.size w W) => Judge_h_ok fourF four_lt 2 5 (by omega) (by omega) (by omega) 3 6 rfl rfl W (LH.B.below hW))
  have HF := hid (fun W => fort_c fourF four_lt W)
  have HP := hid (fun W (hW : Below w.heap.size w W) => partner_c fourF four_lt 6 (by omega) 7 rfl W (LH.R.below hW))
  have HS := hid (fun W (hW : Below w.heap.size w W) => stands_c fourF four_lt 7 (by omega) 8 rfl W (LH.B.below hW))
  rw [k_ties] at HT
  rw [k_asps] at HA
  rw [k_judge] at HJ
  rw [k_mks] at HF
  rw [k_par.1, k_par.2] at HP
  rw [k_sta] at HS
  have hB : Below w.heap.size w w := Below.refl _ _
  clear LH
  go_enter Tryd.func15, Tryd.ntmps15
  go_wp2_with (first
    | (go_at_call 51; refine (four_c _).mono ?_; rintro e wA ⟨rfl, hb⟩; have hB := hB.trans (hb.mono hB.size); (try have hR1 := hR1.below hb); (try have hR2 := hR2.below hb))
    | (go_at_call 22; refine (HT.out _ hB).mono ?_; rintro e wA ⟨⟨v1, rfl, hR1⟩, hb⟩; obtain ⟨G1, c1, rfl, -⟩ := k_tie hR1; have hB := hB.trans (hb.mono hB.size))
    | (go_at_call 23; refine (HA.out _ hB).mono ?_; rintro e wA ⟨⟨v2, rfl, hR2⟩, hb⟩; obtain ⟨G2, c2, rfl, -⟩ := k_asp hR2; have hB := hB.trans (hb.mono hB.size); have hR1 := hR1.below hb)
    | (go_at_call 24; refine (HJ.out _ hB).mono ?_; rintro e wA ⟨rfl, hb⟩; have hB := hB.trans (hb.mono hB.size); have hR1 := hR1.below hb; have hR2 := hR2.below hb)
    | (go_at_call 25; refine (HF.out _).mono ?_; rintro e wA ⟨rfl, hb⟩; have hB := hB.trans (hb.mono hB.size); have hR1 := hR1.below hb; have hR2 := hR2.below hb)
    | (go_at_call 12; refine (HP.out _ hB).mono ?_; rintro e wA ⟨rfl, hb⟩; have hB := hB.trans (hb.mono hB.size); have hR1 := hR1.below hb; have hR2 := hR2.below hb)
    | (go_at_call 11; refine (HS.out _ hB).mono ?_; rintro e wZ ⟨⟨v6, rfl, hR6⟩, hb⟩; have hB := hB.trans (hb.mono hB.size); have hR1 := hR1.below hb; have hR2 := hR2.below hb;
        obtain ⟨_, _, e1, a0, a1, a2⟩ := k_tie hR1; cases e1; obtain ⟨_, _, e1, b0, b1, b2, b3, b4, b5⟩ := k_asp hR2; cases e1; clear hR1 hR2)
    | (go_at_call 18; refine (same5_true v6 _ [8, 12] _ (hR6.below ((Below.refl _ _).alloc (Nat.le_refl _) _)) (reads2h _ 8 12) (by simp)).mono ?_; rintro e wY ⟨rfl, hb7⟩))
  go_ret
  refine ⟨rfl, (hB.alloc hB.size _).trans (hb7.mono ?_)⟩
  have := hB.size
  simp
  omega
theorem LaidH.known {w : World} (LH : LaidH w) : Hid (∀ W, Below w.heap.size w W → Calls Tryd.prog 15 #[] W fun e w' => e = .returned (.bool true) ∧ Below W.heap.size W w') := hid fun W hW => hknown_c W (LH.below hW)
end Go.Proofs.YtcdbkgpgjjeoiaaDoor
