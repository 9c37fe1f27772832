/- Walks of the reference of chapter 5: Ties. -/
import Derived.Test.YtcdbkgpgjjeoiaaDoorHI
import Derived.Test.YtcdbkgpgjjeoiaaDoorHA
namespace Go.Proofs.YtcdbkgpgjjeoiaaDoor
open Go Go.RowKit
set_option maxRecDepth 100000
set_option linter.unusedSimpArgs false
set_option linter.unusedVariables false

theorem is_c (h : Nat → Nat) (hh : ∀ i, i < 12 → h i < 16) (a b k x y : Nat) (ha : a < 12) (hb : b < 12) (hk : k < 4) (hx : x < 12) (hy : y < 12) (ai bi : Int) (ha' : ai = ((a : Nat) : Int) + 1) (hb' : bi = ((b : Nat) : Int) + 1) (w : World) :
    Calls Tryd.prog 61 #[.agg (irow 12 (cst h)), .int .i64 ai, .int .i64 bi, .agg #[.int .i64 (((k : Nat) : Int) + 1), .int .i64 (((x : Nat) : Int) + 1), .int .i64 (((y : Nat) : Int) + 1)]] w fun e w' => e = .returned (.bool (isT h a b (k + 1, x, y))) ∧ Below w.heap.size w w' := by
  have hk4 : k = 0 ∨ k = 1 ∨ k = 2 ∨ k = 3 := by omega
  rcases hk4 with rfl | rfl | rfl | rfl
  · exact is_1 h hh a b x y ha hb hx hy ai bi _ _ ha' hb' rfl rfl w
  · exact is_2 h hh a b x y ha hb hx hy ai bi _ _ ha' hb' rfl rfl w
  · exact is_3 h hh a b x y ha hb hx hy ai bi _ _ ha' hb' rfl rfl w
  · exact is_4 h hh a b x y ha hb hx hy ai bi _ _ ha' hb' rfl rfl w
def rowY (k x y : Nat) : List Tie3 := (List.range y).map fun y => (k + 1, x, y)
def rowX (k x : Nat) : List Tie3 := (List.range x).flatMap fun x => rowY k x 12
def rowK (k : Nat) : List Tie3 := (List.range k).flatMap fun k => rowX k 12
def tS (h : Nat → Nat) (a b k x y : Nat) : List Tie3 := (rowK k ++ rowX k x ++ rowY k x y).filter (isT h a b)
theorem tS_yes {h : Nat → Nat} {a b k x y : Nat} (e : isT h a b (k + 1, x, y) = true) : tS h a b k x (y + 1) = tS h a b k x y ++ [(k + 1, x, y)] := by
  unfold tS rowY
  rw [List.range_succ, List.map_append, ← List.append_assoc, List.filter_append]
  simp [e]
theorem tS_no {h : Nat → Nat} {a b k x y : Nat} (e : isT h a b (k + 1, x, y) = false) : tS h a b k x (y + 1) = tS h a b k x y := by
  unfold tS rowY
  rw [List.range_succ, List.map_append, ← List.append_assoc, List.filter_append]
  simp [e]
theorem tS_x (h : Nat → Nat) (a b k x : Nat) : tS h a b k x 12 = tS h a b k (x + 1) 0 := by
  unfold tS
  rw [show rowX k (x + 1) = rowX k x ++ rowY k x 12 by unfold rowX; rw [List.range_succ, List.flatMap_append]; simp, show rowY k (x + 1) 0 = [] from rfl, List.append_nil, List.append_assoc]
theorem tS_k (h : Nat → Nat) (a b k : Nat) : tS h a b k 12 0 = tS h a b (k + 1) 0 0 := by
  unfold tS
  rw [show rowK (k + 1) = rowK k ++ rowX k 12 by unfold rowK; rw [List.range_succ, List.flatMap_append]; simp, show rowY k 12 0 = [] from rfl, show rowY (k + 1) 0 0 = [] from rfl, show rowX (k + 1) 0 = [] from rfl]
  simp only [List.append_nil]
theorem tS_0 (h : Nat → Nat) (a b : Nat) : tS h a b 0 0 0 = [] := rfl
theorem tS_4 (h : Nat → Nat) (a b : Nat) : tS h a b 4 0 0 = tiesR h a b := by
  unfold tS tiesR
  rw [show rowX 4 0 = [] from rfl, show rowY 4 0 0 = [] from rfl, List.append_nil, List.append_nil]
  rfl
theorem rowY_len (k x y : Nat) : (rowY k x y).length = y := by unfold rowY; simp
theorem flat_const {α β : Type} (f : α → List β) (c : Nat) (hf : ∀ x, (f x).length = c) : ∀ l : List α, (l.flatMap f).length = c * l.length
  | [] => by simp
  | x :: l => by rw [List.flatMap_cons, List.length_append, flat_const f c hf l, hf, List.length_cons, Nat.mul_succ]; omega
theorem tS_len (h : Nat → Nat) (a b k x y : Nat) (hk : k ≤ 4) (hx : x ≤ 12) (hy : y ≤ 12) : (tS h a b k x y).length ≤ 1000 := by
  unfold tS
  refine Nat.le_trans (List.length_filter_le _ _) ?_
  rw [List.length_append, List.length_append, rowY_len]
  have h1 : (rowX k x).length = 12 * x := by unfold rowX; rw [flat_const _ 12 (fun x => rowY_len k x 12)]; simp
  have h2 : (rowK k).length = 144 * k := by
    unfold rowK
    rw [flat_const _ 144 (fun k => by unfold rowX; rw [flat_const _ 12 (fun x => rowY_len k x 12)]; simp)]
    simp
  omega
theorem tri_below {W w2 : World} {g B : Nat} {v : Value} {ts : List Tie3} {T : TypeId} {w0 : World} (hb : Below g w0 W) (hg2 : W.grownBy w2 v.ownBlock) (hT : Trs T W B v ts) (hgB : g ≤ B) (hgs : g ≤ W.heap.size) : Below g w0 w2 :=
  hb.grown hg2 hgs fun k e => by have := (World.ownsRow.lt hT k e).1; omega
theorem tri_heap {W w2 : World} {g B : Nat} {v : Value} {ts : List Tie3} {T : TypeId} {o : Obj} (hg2 : W.grownBy w2 v.ownBlock) (hT : Trs T W B v ts) (ho : W.heap[g]? = some o) (hgB : g < B) : w2.heap[g]? = some o := by
  refine (hg2.block g (heap_lt ho) fun e => ?_).trans ho
  have := (World.ownsRow.lt hT g e.symm).1
  omega
theorem trs_made (w : World) (T : TypeId) (B : Nat) (hB : B ≤ w.heap.size) : Trs T (w.alloc (.cells #[] T)) B (.slice (some ⟨w.heap.size, 0, none⟩) 0 0) [] := World.ownsRow_made w #[] 0 hB (by decide) rfl
set_option maxHeartbeats 4000000 in
theorem rTies (h : Nat → Nat) (hh : ∀ i, i < 12 → h i < 16) (a b : Nat) (ha : a < 12) (hb : b < 12) (ai bi : Int) (ha' : ai = ((a : Nat) : Int) + 1) (hb' : bi = ((b : Nat) : Int) + 1) (w : World) :
    Calls Tryd.prog 30 #[.agg (irow 12 (cst h)), .int .i64 ai, .int .i64 bi] w fun e w' => ∃ v, e = .returned v ∧ ReadsT w' v (tiesR h a b) ∧ Below w.heap.size w w' := by
  have HIs := hid (fun (k x y : Nat) (hk : k < 4) (hx : x < 12) (hy : y < 12) W => is_c h hh a b k x y ha hb hk hx hy ai bi ha' hb' W)
  have H0 := hid (heap_alloc_new w (.cells (irow 12 (cst h)) 24))
  have hB : Below w.heap.size w (w.alloc (.cells (irow 12 (cst h)) 24)) := (Below.refl _ _).alloc (Nat.le_refl _) _
  have hlt0 := heap_lt H0.out
  clear hh ha hb ha' hb'
  obtain ⟨g, hg⟩ : ∃ g, w.heap.size = g := ⟨_, rfl⟩
  go_enter Tryd.func30, Tryd.ntmps30
  go_upto_region 1 with fail
  generalize w.alloc (.cells (irow 12 (cst h)) 24) = w1 at *
  rw [hg] at H0 hB hlt0
  go_wp2_with fail
  have T0 := trs_made w1 53 (g + 1) (by omega)
  have K0 := (heap_alloc_old w1 (.cells #[] 53) hlt0).trans H0.out
  have B0 := hB.alloc (show g ≤ w1.heap.size by omega) (.cells #[] 53)
  go_loopw [7, 8] (fun v i wr => ∃ k : Nat, k ≤ 4 ∧ i = .int .i64 (((k : Nat) : Int) + 1) ∧ Trs 53 wr (g + 1) v (tS h a b k 0 0) ∧ wr.heap[g]? = some (.cells (irow 12 (cst h)) 24 (0, 0)) ∧ Below g w wr) (fun _ i _ => 5 - (intOf i).toNat)
  case atStart => exact ⟨0, by omega, rfl, T0, K0, B0⟩
  case round =>
    clear T0 K0 B0 H0 hB hlt0
    obtain ⟨k, hk, rfl, hT, hg0, hB⟩ := hrel
    have HT := hid hT
    have K0 := hid hg0
    have HB := hid hB
    clear hT hg0 hB
    by_cases hlt : k < 4
    · have hlt' : ((k : Nat) : Int) + 1 ≤ 4 := by omega
      go_wp2_with fail
      go_loopw [7, 9] (fun v i wr => ∃ x : Nat, x ≤ 12 ∧ i = .int .i64 (((x : Nat) : Int) + 1) ∧ Trs 53 wr (g + 1) v (tS h a b k x 0) ∧ wr.heap[g]? = some (.cells (irow 12 (cst h)) 24 (0, 0)) ∧ Below g w wr) (fun _ i _ => 13 - (intOf i).toNat)
      case atStart => exact ⟨0, by omega, rfl, HT.out, K0.out, HB.out⟩
      case round =>
        clear HT K0 HB
        obtain ⟨x, hx, rfl, hT, hg0, hB⟩ := hrel
        have HT := hid hT
        have K0 := hid hg0
        have HB := hid hB
        clear hT hg0 hB
        by_cases hlx : x < 12
        · have hlx' : ((x : Nat) : Int) + 1 ≤ 12 := by omega
          go_wp2_with fail
          go_loopw [7, 10] (fun v i wr => ∃ y : Nat, y ≤ 12 ∧ i = .int .i64 (((y : Nat) : Int) + 1) ∧ Trs 53 wr (g + 1) v (tS h a b k x y) ∧ wr.heap[g]? = some (.cells (irow 12 (cst h)) 24 (0, 0)) ∧ Below g w wr) (fun _ i _ => 13 - (intOf i).toNat)
          case atStart => exact ⟨0, by omega, rfl, HT.out, K0.out, HB.out⟩
          case round =>
            clear HT K0 HB
            obtain ⟨y, hy, rfl, hT, hg0, hB⟩ := hrel
            have HT := hid hT
            have hgs : g + 1 ≤ wr.heap.size := heap_lt hg0
            have HE := hid (show enc3 (k + 1, x, y) = [.int .i64 (((k : Nat) : Int) + 1), .int .i64 (((x : Nat) : Int) + 1), .int .i64 (((y : Nat) : Int) + 1)] by simp [enc3])
            have hq0 := heap_alloc_new wr (.cells #[.int .i64 (((k : Nat) : Int) + 1), .int .i64 (((x : Nat) : Int) + 1), .int .i64 (((y : Nat) : Int) + 1)] 53)
            have hK1 := (heap_alloc_old wr (.cells #[.int .i64 (((k : Nat) : Int) + 1), .int .i64 (((x : Nat) : Int) + 1), .int .i64 (((y : Nat) : Int) + 1)] 53) (heap_lt hg0)).trans hg0
            have hT1 := World.ownsRow.alloc hT (.cells #[.int .i64 (((k : Nat) : Int) + 1), .int .i64 (((x : Nat) : Int) + 1), .int .i64 (((y : Nat) : Int) + 1)] 53)
            have hB1 := hB.alloc (show g ≤ wr.heap.size by omega) (.cells #[.int .i64 (((k : Nat) : Int) + 1), .int .i64 (((x : Nat) : Int) + 1), .int .i64 (((y : Nat) : Int) + 1)] 53)
            have Hq := hid hq0
            have HK1 := hid hK1
            have HT1 := hid hT1
            have HB1 := hid hB1
            have HK0 := hid hg0
            have HB0 := hid hB
            clear hT hg0 hB hq0 hK1 hT1 hB1
            by_cases hly : y < 12
            · have hly' : ((y : Nat) : Int) + 1 ≤ 12 := by omega
              have HIk := hid (HIs.out k x y hlt hlx hly)
              have hlen := tS_len h a b k x y (by omega) (by omega) (by omega)
              cases hz : isT h a b (k + 1, x, y) with
              | true =>
                rw [hz] at HIk
                have HST := hid (tS_yes hz)
                clear hz
                generalize tS h a b k x y = ts at *
                go_wp2_with (first
                  | (refine ldrow arrHouses _ rfl rfl _ rfl _ _ HK1.out ?_)
                  | (go_at_call 61; refine (HIk.out _).mono ?_; rintro e w5 ⟨rfl, hb5⟩; have hq5 := heap_below hb5 Hq.out (by simp); have c0 := cell_of_row _ _ 0 _ _ (0, 0) hq5; have c1 := cell_of_row _ _ 1 _ _ (0, 0) hq5; have c2 := cell_of_row _ _ 2 _ _ (0, 0) hq5; have HK5 := hid (heap_below hb5 HK1.out (by simp; omega)); have HT5 := hid (show Trs 53 w5 (g + 1) _ ts from Trs.below HT1.out hb5); have HB5 := hid (HB1.out.trans (hb5.mono (by simp; omega))); have hs5 := hb5.size; clear hq5 hb5)
                  | (at_builtin; go_must (refine wp_append_tri triTie Tryd.underlying45 rfl _ _ rfl (g + 1) _ ts rfl (World.ownsRow.alloc HT5.out _) (k + 1, x, y) w5.heap.size 1 rfl (tri_new (k + 1, x, y) w5 53 _ HE.out) (by omega) (by simp at hs5 ⊢; omega) ?_); intro v' w7 ho7 hgr7))
                simp only [World.size_alloc] at hs5
                have hT6 := World.ownsRow.alloc HT5.out (.cells #[.int .i64 (((k : Nat) : Int) + 1), .int .i64 (((x : Nat) : Int) + 1), .int .i64 (((y : Nat) : Int) + 1)] 53)
                have hB7 := tri_below (HB5.out.alloc (show g ≤ w5.heap.size by omega) (.cells #[.int .i64 (((k : Nat) : Int) + 1), .int .i64 (((x : Nat) : Int) + 1), .int .i64 (((y : Nat) : Int) + 1)] 53)) hgr7 hT6 (by omega) (by simp; omega)
                have hK7 := tri_heap hgr7 hT6 ((heap_alloc_old w5 (.cells #[.int .i64 (((k : Nat) : Int) + 1), .int .i64 (((x : Nat) : Int) + 1), .int .i64 (((y : Nat) : Int) + 1)] 53) (heap_lt HK5.out)).trans HK5.out) (by omega)
                go_roundw
                case rel => exact ⟨y + 1, by omega, by go_num, by rw [HST.out]; exact ho7, hK7, hB7⟩
                case measure => simp [intOf]; omega
              | false =>
                rw [hz] at HIk
                have HST := hid (tS_no hz)
                clear hz
                generalize tS h a b k x y = ts at *
                go_wp2_with (first
                  | (refine ldrow arrHouses _ rfl rfl _ rfl _ _ HK1.out ?_)
                  | (go_at_call 61; refine (HIk.out _).mono ?_; rintro e w5 ⟨rfl, hb5⟩; have HK5 := hid (heap_below hb5 HK1.out (by simp; omega)); have HT5 := hid (show Trs 53 w5 (g + 1) _ ts from Trs.below HT1.out hb5); have HB5 := hid (HB1.out.trans (hb5.mono (by simp; omega))); clear hb5))
                go_roundw
                case rel => exact ⟨y + 1, by omega, by go_num, by rw [HST.out]; exact HT5.out, HK5.out, HB5.out⟩
                case measure => simp [intOf]; omega
            · have hge : ¬ ((y : Nat) : Int) + 1 ≤ 12 := by omega
              obtain rfl : y = 12 := by omega
              have hT9 := HT.out
              rw [tS_x] at hT9
              have HT9 := hid hT9
              clear hT9
              go_wp2_with fail
              go_roundw
              case rel => exact ⟨x + 1, by omega, by go_num, HT9.out, HK0.out, HB0.out⟩
              case measure => simp [intOf]; omega
        · have hge : ¬ ((x : Nat) : Int) + 1 ≤ 12 := by omega
          obtain rfl : x = 12 := by omega
          have hT9 := HT.out
          rw [tS_k] at hT9
          have HT9 := hid hT9
          clear hT9
          go_wp2_with fail
          go_roundw
          case rel => exact ⟨k + 1, by omega, by go_num, HT9.out, K0.out, HB.out⟩
          case measure => simp [intOf]; omega
    · have hge : ¬ ((k : Nat) : Int) + 1 ≤ 4 := by omega
      obtain rfl : k = 4 := by omega
      have hT9 := HT.out
      rw [tS_4] at hT9
      have HT9 := hid hT9
      clear hT9
      go_wp2_with fail
      go_ret
      exact ⟨_, rfl, HT9.out.reads, hg ▸ HB.out⟩
end Go.Proofs.YtcdbkgpgjjeoiaaDoor
