/- Walks of the reference of chapter 5: Aspects, Judge. -/
import Derived.Test.YtcdbkgpgjjeoiaaDoorHRT
import Derived.Test.YtcdbkgpgjjeoiaaDoorHJ
namespace Go.Proofs.YtcdbkgpgjjeoiaaDoor
open Go Go.RowKit
set_option maxRecDepth 100000
set_option linter.unusedSimpArgs false
set_option linter.unusedVariables false

def aS (h : Nat → Nat) (a b x : Nat) : List Tie3 := ((List.range x).filter fun x => looks (apN x b) && h x == h a).map fun x => (apN x b, x, b)
theorem aS_yes {h : Nat → Nat} {a b x : Nat} (e : (looks (apN x b) && h x == h a) = true) : aS h a b (x + 1) = aS h a b x ++ [(apN x b, x, b)] := by
  unfold aS; rw [List.range_succ, List.filter_append, List.map_append]; simp [e]
theorem aS_no {h : Nat → Nat} {a b x : Nat} (e : (looks (apN x b) && h x == h a) = false) : aS h a b (x + 1) = aS h a b x := by
  unfold aS; rw [List.range_succ, List.filter_append, List.map_append]; simp [e]
theorem aS_12 (h : Nat → Nat) (a b : Nat) : aS h a b 12 = aspR h a b := rfl
theorem aS_len (h : Nat → Nat) (a b x : Nat) : (aS h a b x).length ≤ x := by
  unfold aS; rw [List.length_map]; exact Nat.le_trans (List.length_filter_le _ _) (by simp)
theorem looks_yes (k : Nat) (h : k = 2 ∨ k = 3 ∨ k = 4 ∨ k = 6) : looks k = true := by rcases h with rfl | rfl | rfl | rfl <;> rfl
theorem looks_no (k : Nat) (h : ¬ (k = 2 ∨ k = 3 ∨ k = 4 ∨ k = 6)) : looks k = false := by
  unfold looks
  simp
  omega
set_option maxHeartbeats 8000000 in
theorem rAspects (h : Nat → Nat) (hh : ∀ i, i < 12 → h i < 16) (a b : Nat) (ha : a < 12) (hb : b < 12) (ai bi : Int) (ha' : ai = ((a : Nat) : Int) + 1) (hb' : bi = ((b : Nat) : Int) + 1) (w : World) :
    Calls Tryd.prog 32 #[.agg (irow 12 (cst h)), .int .i64 ai, .int .i64 bi] w fun e w' => ∃ v, e = .returned v ∧ ReadsT w' v (aspR h a b) ∧ Below w.heap.size w w' := by
  have HAp := hid (fun (x : Nat) (hx : x < 12) W => rApart x b hx hb (((x : Nat) : Int) + 1) bi rfl hb' W)
  have HAx := hid (fun (x : Nat) (hx : x < 12) W => rAt (cst h) x hx (((x : Nat) : Int) + 1) rfl W)
  have HAa := hid (fun W => rAt (cst h) a ha ai ha' W)
  obtain ⟨fa, hfa⟩ : ∃ z, h a = z := ⟨_, rfl⟩
  rw [cst_app, hfa] at HAa
  have HFA := hid hfa
  have HBI := hid hb'
  have H0 := hid (heap_alloc_new w (.cells (irow 12 (cst h)) 24))
  have hB : Below w.heap.size w (w.alloc (.cells (irow 12 (cst h)) 24)) := (Below.refl _ _).alloc (Nat.le_refl _) _
  have hlt0 := heap_lt H0.out
  clear hh ha ha' hb' hfa
  obtain ⟨g, hg⟩ : ∃ g, w.heap.size = g := ⟨_, rfl⟩
  go_enter Tryd.func32, Tryd.ntmps32
  go_upto_region 1 with fail
  generalize w.alloc (.cells (irow 12 (cst h)) 24) = w1 at *
  rw [hg] at H0 hB hlt0
  go_wp2_with fail
  have T0 := trs_made w1 56 (g + 1) (by omega)
  have K0 := (heap_alloc_old w1 (.cells #[] 56) hlt0).trans H0.out
  have B0 := hB.alloc (show g ≤ w1.heap.size by omega) (.cells #[] 56)
  go_loopw [7, 8] (fun v i wr => ∃ x : Nat, x ≤ 12 ∧ i = .int .i64 (((x : Nat) : Int) + 1) ∧ Trs 56 wr (g + 1) v (aS h a b x) ∧ wr.heap[g]? = some (.cells (irow 12 (cst h)) 24 (0, 0)) ∧ Below g w wr) (fun _ i _ => 13 - (intOf i).toNat)
  case atStart => exact ⟨0, by omega, rfl, T0, K0, B0⟩
  case round =>
    clear T0 K0 B0 H0 hB hlt0
    obtain ⟨x, hx, rfl, hT, hg0, hB⟩ := hrel
    have HT := hid hT
    have HK0 := hid hg0
    have HB := hid hB
    have hlt0 := heap_lt hg0
    clear hT hg0 hB
    by_cases hlx : x < 12
    · have hlx' : ((x : Nat) : Int) + 1 ≤ 12 := by omega
      have HPx := hid (HAp.out x hlx)
      have HAx' := hid (HAx.out x hlx)
      have hll := aS_len h a b x
      have HY := hid (aS_yes (h := h) (a := a) (b := b) (x := x))
      have HN := hid (aS_no (h := h) (a := a) (b := b) (x := x))
      obtain ⟨k, hk⟩ : ∃ k, apN x b = k := ⟨_, rfl⟩
      obtain ⟨f, hf⟩ : ∃ f, h x = f := ⟨_, rfl⟩
      rw [hk, hf, HFA.out] at HY HN
      rw [hk] at HPx
      rw [cst_app, hf] at HAx'
      have HE := hid (show enc3 (k, x, b) = [.int .i64 ((k : Nat) : Int), .int .i64 (((x : Nat) : Int) + 1), .int .i64 bi] by rw [HBI.out]; simp [enc3])
      clear hk hf
      generalize aS h a b x = ts at *
      by_cases hff : f = fa
      · have hfe : (((f : Nat) : Int) == ((fa : Nat) : Int)) = true := by rw [hff]; simp
        have hff' : (f == fa) = true := by simpa using hff
        rw [hff', Bool.and_true] at HY HN
        clear hff hff'
        by_cases h2 : k = 2
        · have e2 : (((k : Nat) : Int) == 2) = true := by simp; omega
          have HL := hid (looks_yes k (by omega))
          clear h2
          go_wp2_with (go_at_call 38; refine (HPx.out _).mono ?_; rintro e w' ⟨rfl, rfl⟩)
          have hS4 : Below wr.heap.size wr wr.drew := below_drew (Below.refl _ _)
          refine regD (fun W => Below wr.heap.size wr W) (fun _ => true) (by kernel_rfl) ?_
          refine takeE (i := 0) (.agg (irow 12 (cst h))) (d := some 18) rfl (by kernel_rfl) (by kernel_rfl) (by kernel_rfl) (by kernel_rfl) (fun _ _ _ h => h) rfl (fun W hSw => by exact exec_ldrow arrHouses rfl rfl (heap_below hSw HK0.out hlt0)) (hS4) rfl ?_
          simp only [Act.put, List.setIfInBounds_toArray, List.set_cons_zero, List.set_cons_succ]
          refine takeE (i := 1) (.int .i64 (((x : Nat) : Int) + 1)) (d := some 19) rfl (by kernel_rfl) (by kernel_rfl) (by kernel_rfl) (by kernel_rfl) (fun _ _ _ h => h) rfl (fun W hSw => by rfl) (hS4) rfl ?_
          simp only [Act.put, List.setIfInBounds_toArray, List.set_cons_zero, List.set_cons_succ]
          refine takeE (i := 3) (.agg (irow 12 (cst h))) (d := some 21) rfl (by kernel_rfl) (by kernel_rfl) (by kernel_rfl) (by kernel_rfl) (fun _ _ _ h => h) rfl (fun W hSw => by exact exec_ldrow arrHouses rfl rfl (heap_below hSw HK0.out hlt0)) (hS4) rfl ?_
          simp only [Act.put, List.setIfInBounds_toArray, List.set_cons_zero, List.set_cons_succ]
          refine takeE (i := 4) (.int .i64 ai) (d := some 22) rfl (by kernel_rfl) (by kernel_rfl) (by kernel_rfl) (by kernel_rfl) (fun _ _ _ h => h) rfl (fun W hSw => by rfl) (hS4) rfl ?_
          simp only [Act.put, List.setIfInBounds_toArray, List.set_cons_zero, List.set_cons_succ]
          refine stepD 2 (by kernel_rfl) rfl rfl (fun K hK => ?_)
          go_simp
          go_at_call 16
          refine (HAx'.out _).mono ?_
          rintro e w5 ⟨rfl, hb⟩
          have hS5 : Below wr.heap.size wr w5 := hS4.trans (hb.mono hS4.size)
          go_simp
          refine hK _ _ (fun _ => hS5) ?_
          clear hK K
          refine stepD 5 (by kernel_rfl) rfl rfl (fun K hK => ?_)
          go_simp
          go_at_call 16
          refine (HAa.out _).mono ?_
          rintro e w6 ⟨rfl, hb⟩
          have hS6 : Below wr.heap.size wr w6 := hS5.trans (hb.mono hS5.size)
          go_simp
          refine hK _ _ (fun _ => hS6) ?_
          clear hK K
          refine takeE (i := 6) (.bool true) (d := some 24) rfl (by kernel_rfl) (by kernel_rfl) (by kernel_rfl) (by kernel_rfl) (fun _ _ _ h => h) rfl (fun W hSw => by go_simp) (hS6) rfl ?_
          simp only [Act.put, List.setIfInBounds_toArray, List.set_cons_zero, List.set_cons_succ]
          refine takeE (i := 7) (.bool true) (d := some 25) rfl (by kernel_rfl) (by kernel_rfl) (by kernel_rfl) (by kernel_rfl) (fun _ _ _ h => h) rfl (fun W hSw => by go_simp) (hS6) rfl ?_
          simp only [Act.put, List.setIfInBounds_toArray, List.set_cons_zero, List.set_cons_succ]
          refine takeY (i := 8) (.int .i64 ((k : Nat) : Int)) (d := some 26) rfl (by kernel_rfl) (by kernel_rfl) (by kernel_rfl) (by kernel_rfl) (fun _ _ _ h => h) (by kernel_rfl) (fun W hSw => by go_simp) (hS6) rfl ?_
          simp only [Act.put, List.setIfInBounds_toArray, List.set_cons_zero, List.set_cons_succ]
          refine takeY (i := 9) (.bool true) (d := some 27) rfl (by kernel_rfl) (by kernel_rfl) (by kernel_rfl) (by kernel_rfl) (fun _ _ _ h => h) (by kernel_rfl) (fun W hSw => by go_simp) (hS6) rfl ?_
          simp only [Act.put, List.setIfInBounds_toArray, List.set_cons_zero, List.set_cons_succ]
          refine takeY (i := 10) (.bool true) (d := some 28) rfl (by kernel_rfl) (by kernel_rfl) (by kernel_rfl) (by kernel_rfl) (fun _ _ _ h => h) (by kernel_rfl) (fun W hSw => by go_simp) (hS6) rfl ?_
          simp only [Act.put, List.setIfInBounds_toArray, List.set_cons_zero, List.set_cons_succ]
          refine takeN (i := 11) (d := some 29) rfl (by kernel_rfl) (by kernel_rfl) (by kernel_rfl) (by kernel_rfl) (fun _ _ _ h => h) (by kernel_rfl) (hS6) rfl ?_
          simp only [Act.put, List.setIfInBounds_toArray, List.set_cons_zero, List.set_cons_succ]
          refine takeN (i := 12) (d := some 30) rfl (by kernel_rfl) (by kernel_rfl) (by kernel_rfl) (by kernel_rfl) (fun _ _ _ h => h) (by kernel_rfl) (hS6) rfl ?_
          simp only [Act.put, List.setIfInBounds_toArray, List.set_cons_zero, List.set_cons_succ]
          refine takeY (i := 13) (.bool true) (d := some 31) rfl (by kernel_rfl) (by kernel_rfl) (by kernel_rfl) (by kernel_rfl) (fun _ _ _ h => h) (by kernel_rfl) (fun W hSw => by go_simp) (hS6) rfl ?_
          simp only [Act.put, List.setIfInBounds_toArray, List.set_cons_zero, List.set_cons_succ]
          refine takeY (i := 14) (.bool true) (d := some 32) rfl (by kernel_rfl) (by kernel_rfl) (by kernel_rfl) (by kernel_rfl) (fun _ _ _ h => h) (by kernel_rfl) (fun W hSw => by go_simp) (hS6) rfl ?_
          simp only [Act.put, List.setIfInBounds_toArray, List.set_cons_zero, List.set_cons_succ]
          refine takeN (i := 15) (d := some 33) rfl (by kernel_rfl) (by kernel_rfl) (by kernel_rfl) (by kernel_rfl) (fun _ _ _ h => h) (by kernel_rfl) (hS6) rfl ?_
          simp only [Act.put, List.setIfInBounds_toArray, List.set_cons_zero, List.set_cons_succ]
          refine takeN (i := 16) (d := some 34) rfl (by kernel_rfl) (by kernel_rfl) (by kernel_rfl) (by kernel_rfl) (fun _ _ _ h => h) (by kernel_rfl) (hS6) rfl ?_
          simp only [Act.put, List.setIfInBounds_toArray, List.set_cons_zero, List.set_cons_succ]
          refine takeY (i := 17) (.bool true) (d := some 35) rfl (by kernel_rfl) (by kernel_rfl) (by kernel_rfl) (by kernel_rfl) (fun _ _ _ h => h) (by kernel_rfl) (fun W hSw => by go_simp) (hS6) rfl ?_
          simp only [Act.put, List.setIfInBounds_toArray, List.set_cons_zero, List.set_cons_succ]
          refine takeY (i := 18) (.bool true) (d := some 36) rfl (by kernel_rfl) (by kernel_rfl) (by kernel_rfl) (by kernel_rfl) (fun _ _ _ h => h) (by kernel_rfl) (fun W hSw => by go_simp) (hS6) rfl ?_
          simp only [Act.put, List.setIfInBounds_toArray, List.set_cons_zero, List.set_cons_succ]
          refine takeN (i := 19) (d := some 37) rfl (by kernel_rfl) (by kernel_rfl) (by kernel_rfl) (by kernel_rfl) (fun _ _ _ h => h) (by kernel_rfl) (hS6) rfl ?_
          simp only [Act.put, List.setIfInBounds_toArray, List.set_cons_zero, List.set_cons_succ]
          refine takeN (i := 20) (d := some 38) rfl (by kernel_rfl) (by kernel_rfl) (by kernel_rfl) (by kernel_rfl) (fun _ _ _ h => h) (by kernel_rfl) (hS6) rfl ?_
          simp only [Act.put, List.setIfInBounds_toArray, List.set_cons_zero, List.set_cons_succ]
          refine takeY (i := 21) (.bool true) (d := some 39) rfl (by kernel_rfl) (by kernel_rfl) (by kernel_rfl) (by kernel_rfl) (fun _ _ _ h => h) (by kernel_rfl) (fun W hSw => by go_simp) (hS6) rfl ?_
          simp only [Act.put, List.setIfInBounds_toArray, List.set_cons_zero, List.set_cons_succ]
          refine takeE (i := 22) (.bool true) (d := some 40) rfl (by kernel_rfl) (by kernel_rfl) (by kernel_rfl) (by kernel_rfl) (fun _ _ _ h => h) rfl (fun W hSw => by go_simp) (hS6) rfl ?_
          simp only [Act.put, List.setIfInBounds_toArray, List.set_cons_zero, List.set_cons_succ]
          refine doneD (by kernel_rfl) ?_ _
          refine OnlyNorm.normal ?_
          have HK6 := hid (heap_below hS6 HK0.out hlt0)
          have HT6 := hid (show Trs 56 w6 (g + 1) _ ts from Trs.below HT.out hS6)
          have HB6 := hid (HB.out.trans (hS6.mono (by omega)))
          have hs6 := hS6.size
          go_wp2_with (at_builtin; go_must (refine wp_append_tri triAsp Tryd.underlying48 rfl _ _ rfl (g + 1) _ ts rfl (World.ownsRow.alloc HT6.out _) (k, x, b) w6.heap.size 1 rfl (tri_new (k, x, b) w6 56 _ HE.out) (by omega) (by simp; omega) ?_); intro v' w7 ho7 hgr7)
          have hT6 := World.ownsRow.alloc HT6.out (.cells #[.int .i64 ((k : Nat) : Int), .int .i64 (((x : Nat) : Int) + 1), .int .i64 bi] 56)
          have hB7 := tri_below (HB6.out.alloc (show g ≤ w6.heap.size by omega) (.cells #[.int .i64 ((k : Nat) : Int), .int .i64 (((x : Nat) : Int) + 1), .int .i64 bi] 56)) hgr7 hT6 (by omega) (by simp; omega)
          have hK7 := tri_heap hgr7 hT6 ((heap_alloc_old w6 (.cells #[.int .i64 ((k : Nat) : Int), .int .i64 (((x : Nat) : Int) + 1), .int .i64 bi] 56) (heap_lt HK6.out)).trans HK6.out) (by omega)
          go_roundw
          case rel => exact ⟨x + 1, by omega, by go_num, by rw [HY.out HL.out]; exact ho7, hK7, hB7⟩
          case measure => simp [intOf]; omega
        · have e2 : (((k : Nat) : Int) == 2) = false := by simp; omega
          by_cases h3 : k = 3
          · have e3 : (((k : Nat) : Int) == 3) = true := by simp; omega
            have HL := hid (looks_yes k (by omega))
            clear h2 h3
            go_wp2_with (go_at_call 38; refine (HPx.out _).mono ?_; rintro e w' ⟨rfl, rfl⟩)
            have hS4 : Below wr.heap.size wr wr.drew := below_drew (Below.refl _ _)
            refine regD (fun W => Below wr.heap.size wr W) (fun _ => true) (by kernel_rfl) ?_
            refine takeE (i := 0) (.agg (irow 12 (cst h))) (d := some 18) rfl (by kernel_rfl) (by kernel_rfl) (by kernel_rfl) (by kernel_rfl) (fun _ _ _ h => h) rfl (fun W hSw => by exact exec_ldrow arrHouses rfl rfl (heap_below hSw HK0.out hlt0)) (hS4) rfl ?_
            simp only [Act.put, List.setIfInBounds_toArray, List.set_cons_zero, List.set_cons_succ]
            refine takeE (i := 1) (.int .i64 (((x : Nat) : Int) + 1)) (d := some 19) rfl (by kernel_rfl) (by kernel_rfl) (by kernel_rfl) (by kernel_rfl) (fun _ _ _ h => h) rfl (fun W hSw => by rfl) (hS4) rfl ?_
            simp only [Act.put, List.setIfInBounds_toArray, List.set_cons_zero, List.set_cons_succ]
            refine takeE (i := 3) (.agg (irow 12 (cst h))) (d := some 21) rfl (by kernel_rfl) (by kernel_rfl) (by kernel_rfl) (by kernel_rfl) (fun _ _ _ h => h) rfl (fun W hSw => by exact exec_ldrow arrHouses rfl rfl (heap_below hSw HK0.out hlt0)) (hS4) rfl ?_
            simp only [Act.put, List.setIfInBounds_toArray, List.set_cons_zero, List.set_cons_succ]
            refine takeE (i := 4) (.int .i64 ai) (d := some 22) rfl (by kernel_rfl) (by kernel_rfl) (by kernel_rfl) (by kernel_rfl) (fun _ _ _ h => h) rfl (fun W hSw => by rfl) (hS4) rfl ?_
            simp only [Act.put, List.setIfInBounds_toArray, List.set_cons_zero, List.set_cons_succ]
            refine stepD 2 (by kernel_rfl) rfl rfl (fun K hK => ?_)
            go_simp
            go_at_call 16
            refine (HAx'.out _).mono ?_
            rintro e w5 ⟨rfl, hb⟩
            have hS5 : Below wr.heap.size wr w5 := hS4.trans (hb.mono hS4.size)
            go_simp
            refine hK _ _ (fun _ => hS5) ?_
            clear hK K
            refine stepD 5 (by kernel_rfl) rfl rfl (fun K hK => ?_)
            go_simp
            go_at_call 16
            refine (HAa.out _).mono ?_
            rintro e w6 ⟨rfl, hb⟩
            have hS6 : Below wr.heap.size wr w6 := hS5.trans (hb.mono hS5.size)
            go_simp
            refine hK _ _ (fun _ => hS6) ?_
            clear hK K
            refine takeE (i := 6) (.bool true) (d := some 24) rfl (by kernel_rfl) (by kernel_rfl) (by kernel_rfl) (by kernel_rfl) (fun _ _ _ h => h) rfl (fun W hSw => by go_simp) (hS6) rfl ?_
            simp only [Act.put, List.setIfInBounds_toArray, List.set_cons_zero, List.set_cons_succ]
            refine takeE (i := 7) (.bool true) (d := some 25) rfl (by kernel_rfl) (by kernel_rfl) (by kernel_rfl) (by kernel_rfl) (fun _ _ _ h => h) rfl (fun W hSw => by go_simp) (hS6) rfl ?_
            simp only [Act.put, List.setIfInBounds_toArray, List.set_cons_zero, List.set_cons_succ]
            refine takeY (i := 8) (.int .i64 ((k : Nat) : Int)) (d := some 26) rfl (by kernel_rfl) (by kernel_rfl) (by kernel_rfl) (by kernel_rfl) (fun _ _ _ h => h) (by kernel_rfl) (fun W hSw => by go_simp) (hS6) rfl ?_
            simp only [Act.put, List.setIfInBounds_toArray, List.set_cons_zero, List.set_cons_succ]
            refine takeY (i := 9) (.bool false) (d := some 27) rfl (by kernel_rfl) (by kernel_rfl) (by kernel_rfl) (by kernel_rfl) (fun _ _ _ h => h) (by kernel_rfl) (fun W hSw => by go_simp) (hS6) rfl ?_
            simp only [Act.put, List.setIfInBounds_toArray, List.set_cons_zero, List.set_cons_succ]
            refine takeY (i := 10) (.bool false) (d := some 28) rfl (by kernel_rfl) (by kernel_rfl) (by kernel_rfl) (by kernel_rfl) (fun _ _ _ h => h) (by kernel_rfl) (fun W hSw => by go_simp) (hS6) rfl ?_
            simp only [Act.put, List.setIfInBounds_toArray, List.set_cons_zero, List.set_cons_succ]
            refine takeY (i := 11) (.int .i64 ((k : Nat) : Int)) (d := some 29) rfl (by kernel_rfl) (by kernel_rfl) (by kernel_rfl) (by kernel_rfl) (fun _ _ _ h => h) (by kernel_rfl) (fun W hSw => by go_simp) (hS6) rfl ?_
            simp only [Act.put, List.setIfInBounds_toArray, List.set_cons_zero, List.set_cons_succ]
            refine takeY (i := 12) (.bool true) (d := some 30) rfl (by kernel_rfl) (by kernel_rfl) (by kernel_rfl) (by kernel_rfl) (fun _ _ _ h => h) (by kernel_rfl) (fun W hSw => by go_simp) (hS6) rfl ?_
            simp only [Act.put, List.setIfInBounds_toArray, List.set_cons_zero, List.set_cons_succ]
            refine takeY (i := 13) (.bool true) (d := some 31) rfl (by kernel_rfl) (by kernel_rfl) (by kernel_rfl) (by kernel_rfl) (fun _ _ _ h => h) (by kernel_rfl) (fun W hSw => by go_simp) (hS6) rfl ?_
            simp only [Act.put, List.setIfInBounds_toArray, List.set_cons_zero, List.set_cons_succ]
            refine takeY (i := 14) (.bool true) (d := some 32) rfl (by kernel_rfl) (by kernel_rfl) (by kernel_rfl) (by kernel_rfl) (fun _ _ _ h => h) (by kernel_rfl) (fun W hSw => by go_simp) (hS6) rfl ?_
            simp only [Act.put, List.setIfInBounds_toArray, List.set_cons_zero, List.set_cons_succ]
            refine takeN (i := 15) (d := some 33) rfl (by kernel_rfl) (by kernel_rfl) (by kernel_rfl) (by kernel_rfl) (fun _ _ _ h => h) (by kernel_rfl) (hS6) rfl ?_
            simp only [Act.put, List.setIfInBounds_toArray, List.set_cons_zero, List.set_cons_succ]
            refine takeN (i := 16) (d := some 34) rfl (by kernel_rfl) (by kernel_rfl) (by kernel_rfl) (by kernel_rfl) (fun _ _ _ h => h) (by kernel_rfl) (hS6) rfl ?_
            simp only [Act.put, List.setIfInBounds_toArray, List.set_cons_zero, List.set_cons_succ]
            refine takeY (i := 17) (.bool true) (d := some 35) rfl (by kernel_rfl) (by kernel_rfl) (by kernel_rfl) (by kernel_rfl) (fun _ _ _ h => h) (by kernel_rfl) (fun W hSw => by go_simp) (hS6) rfl ?_
            simp only [Act.put, List.setIfInBounds_toArray, List.set_cons_zero, List.set_cons_succ]
            refine takeY (i := 18) (.bool true) (d := some 36) rfl (by kernel_rfl) (by kernel_rfl) (by kernel_rfl) (by kernel_rfl) (fun _ _ _ h => h) (by kernel_rfl) (fun W hSw => by go_simp) (hS6) rfl ?_
            simp only [Act.put, List.setIfInBounds_toArray, List.set_cons_zero, List.set_cons_succ]
            refine takeN (i := 19) (d := some 37) rfl (by kernel_rfl) (by kernel_rfl) (by kernel_rfl) (by kernel_rfl) (fun _ _ _ h => h) (by kernel_rfl) (hS6) rfl ?_
            simp only [Act.put, List.setIfInBounds_toArray, List.set_cons_zero, List.set_cons_succ]
            refine takeN (i := 20) (d := some 38) rfl (by kernel_rfl) (by kernel_rfl) (by kernel_rfl) (by kernel_rfl) (fun _ _ _ h => h) (by kernel_rfl) (hS6) rfl ?_
            simp only [Act.put, List.setIfInBounds_toArray, List.set_cons_zero, List.set_cons_succ]
            refine takeY (i := 21) (.bool true) (d := some 39) rfl (by kernel_rfl) (by kernel_rfl) (by kernel_rfl) (by kernel_rfl) (fun _ _ _ h => h) (by kernel_rfl) (fun W hSw => by go_simp) (hS6) rfl ?_
            simp only [Act.put, List.setIfInBounds_toArray, List.set_cons_zero, List.set_cons_succ]
            refine takeE (i := 22) (.bool true) (d := some 40) rfl (by kernel_rfl) (by kernel_rfl) (by kernel_rfl) (by kernel_rfl) (fun _ _ _ h => h) rfl (fun W hSw => by go_simp) (hS6) rfl ?_
            simp only [Act.put, List.setIfInBounds_toArray, List.set_cons_zero, List.set_cons_succ]
            refine doneD (by kernel_rfl) ?_ _
            refine OnlyNorm.normal ?_
            have HK6 := hid (heap_below hS6 HK0.out hlt0)
            have HT6 := hid (show Trs 56 w6 (g + 1) _ ts from Trs.below HT.out hS6)
            have HB6 := hid (HB.out.trans (hS6.mono (by omega)))
            have hs6 := hS6.size
            go_wp2_with (at_builtin; go_must (refine wp_append_tri triAsp Tryd.underlying48 rfl _ _ rfl (g + 1) _ ts rfl (World.ownsRow.alloc HT6.out _) (k, x, b) w6.heap.size 1 rfl (tri_new (k, x, b) w6 56 _ HE.out) (by omega) (by simp; omega) ?_); intro v' w7 ho7 hgr7)
            have hT6 := World.ownsRow.alloc HT6.out (.cells #[.int .i64 ((k : Nat) : Int), .int .i64 (((x : Nat) : Int) + 1), .int .i64 bi] 56)
            have hB7 := tri_below (HB6.out.alloc (show g ≤ w6.heap.size by omega) (.cells #[.int .i64 ((k : Nat) : Int), .int .i64 (((x : Nat) : Int) + 1), .int .i64 bi] 56)) hgr7 hT6 (by omega) (by simp; omega)
            have hK7 := tri_heap hgr7 hT6 ((heap_alloc_old w6 (.cells #[.int .i64 ((k : Nat) : Int), .int .i64 (((x : Nat) : Int) + 1), .int .i64 bi] 56) (heap_lt HK6.out)).trans HK6.out) (by omega)
            go_roundw
            case rel => exact ⟨x + 1, by omega, by go_num, by rw [HY.out HL.out]; exact ho7, hK7, hB7⟩
            case measure => simp [intOf]; omega
          · have e3 : (((k : Nat) : Int) == 3) = false := by simp; omega
            by_cases h4 : k = 4
            · have e4 : (((k : Nat) : Int) == 4) = true := by simp; omega
              have HL := hid (looks_yes k (by omega))
              clear h2 h3 h4
              go_wp2_with (go_at_call 38; refine (HPx.out _).mono ?_; rintro e w' ⟨rfl, rfl⟩)
              have hS4 : Below wr.heap.size wr wr.drew := below_drew (Below.refl _ _)
              refine regD (fun W => Below wr.heap.size wr W) (fun _ => true) (by kernel_rfl) ?_
              refine takeE (i := 0) (.agg (irow 12 (cst h))) (d := some 18) rfl (by kernel_rfl) (by kernel_rfl) (by kernel_rfl) (by kernel_rfl) (fun _ _ _ h => h) rfl (fun W hSw => by exact exec_ldrow arrHouses rfl rfl (heap_below hSw HK0.out hlt0)) (hS4) rfl ?_
              simp only [Act.put, List.setIfInBounds_toArray, List.set_cons_zero, List.set_cons_succ]
              refine takeE (i := 1) (.int .i64 (((x : Nat) : Int) + 1)) (d := some 19) rfl (by kernel_rfl) (by kernel_rfl) (by kernel_rfl) (by kernel_rfl) (fun _ _ _ h => h) rfl (fun W hSw => by rfl) (hS4) rfl ?_
              simp only [Act.put, List.setIfInBounds_toArray, List.set_cons_zero, List.set_cons_succ]
              refine takeE (i := 3) (.agg (irow 12 (cst h))) (d := some 21) rfl (by kernel_rfl) (by kernel_rfl) (by kernel_rfl) (by kernel_rfl) (fun _ _ _ h => h) rfl (fun W hSw => by exact exec_ldrow arrHouses rfl rfl (heap_below hSw HK0.out hlt0)) (hS4) rfl ?_
              simp only [Act.put, List.setIfInBounds_toArray, List.set_cons_zero, List.set_cons_succ]
              refine takeE (i := 4) (.int .i64 ai) (d := some 22) rfl (by kernel_rfl) (by kernel_rfl) (by kernel_rfl) (by kernel_rfl) (fun _ _ _ h => h) rfl (fun W hSw => by rfl) (hS4) rfl ?_
              simp only [Act.put, List.setIfInBounds_toArray, List.set_cons_zero, List.set_cons_succ]
              refine stepD 2 (by kernel_rfl) rfl rfl (fun K hK => ?_)
              go_simp
              go_at_call 16
              refine (HAx'.out _).mono ?_
              rintro e w5 ⟨rfl, hb⟩
              have hS5 : Below wr.heap.size wr w5 := hS4.trans (hb.mono hS4.size)
              go_simp
              refine hK _ _ (fun _ => hS5) ?_
              clear hK K
              refine stepD 5 (by kernel_rfl) rfl rfl (fun K hK => ?_)
              go_simp
              go_at_call 16
              refine (HAa.out _).mono ?_
              rintro e w6 ⟨rfl, hb⟩
              have hS6 : Below wr.heap.size wr w6 := hS5.trans (hb.mono hS5.size)
              go_simp
              refine hK _ _ (fun _ => hS6) ?_
              clear hK K
              refine takeE (i := 6) (.bool true) (d := some 24) rfl (by kernel_rfl) (by kernel_rfl) (by kernel_rfl) (by kernel_rfl) (fun _ _ _ h => h) rfl (fun W hSw => by go_simp) (hS6) rfl ?_
              simp only [Act.put, List.setIfInBounds_toArray, List.set_cons_zero, List.set_cons_succ]
              refine takeE (i := 7) (.bool true) (d := some 25) rfl (by kernel_rfl) (by kernel_rfl) (by kernel_rfl) (by kernel_rfl) (fun _ _ _ h => h) rfl (fun W hSw => by go_simp) (hS6) rfl ?_
              simp only [Act.put, List.setIfInBounds_toArray, List.set_cons_zero, List.set_cons_succ]
              refine takeY (i := 8) (.int .i64 ((k : Nat) : Int)) (d := some 26) rfl (by kernel_rfl) (by kernel_rfl) (by kernel_rfl) (by kernel_rfl) (fun _ _ _ h => h) (by kernel_rfl) (fun W hSw => by go_simp) (hS6) rfl ?_
              simp only [Act.put, List.setIfInBounds_toArray, List.set_cons_zero, List.set_cons_succ]
              refine takeY (i := 9) (.bool false) (d := some 27) rfl (by kernel_rfl) (by kernel_rfl) (by kernel_rfl) (by kernel_rfl) (fun _ _ _ h => h) (by kernel_rfl) (fun W hSw => by go_simp) (hS6) rfl ?_
              simp only [Act.put, List.setIfInBounds_toArray, List.set_cons_zero, List.set_cons_succ]
              refine takeY (i := 10) (.bool false) (d := some 28) rfl (by kernel_rfl) (by kernel_rfl) (by kernel_rfl) (by kernel_rfl) (fun _ _ _ h => h) (by kernel_rfl) (fun W hSw => by go_simp) (hS6) rfl ?_
              simp only [Act.put, List.setIfInBounds_toArray, List.set_cons_zero, List.set_cons_succ]
              refine takeY (i := 11) (.int .i64 ((k : Nat) : Int)) (d := some 29) rfl (by kernel_rfl) (by kernel_rfl) (by kernel_rfl) (by kernel_rfl) (fun _ _ _ h => h) (by kernel_rfl) (fun W hSw => by go_simp) (hS6) rfl ?_
              simp only [Act.put, List.setIfInBounds_toArray, List.set_cons_zero, List.set_cons_succ]
              refine takeY (i := 12) (.bool false) (d := some 30) rfl (by kernel_rfl) (by kernel_rfl) (by kernel_rfl) (by kernel_rfl) (fun _ _ _ h => h) (by kernel_rfl) (fun W hSw => by go_simp) (hS6) rfl ?_
              simp only [Act.put, List.setIfInBounds_toArray, List.set_cons_zero, List.set_cons_succ]
              refine takeY (i := 13) (.bool false) (d := some 31) rfl (by kernel_rfl) (by kernel_rfl) (by kernel_rfl) (by kernel_rfl) (fun _ _ _ h => h) (by kernel_rfl) (fun W hSw => by go_simp) (hS6) rfl ?_
              simp only [Act.put, List.setIfInBounds_toArray, List.set_cons_zero, List.set_cons_succ]
              refine takeY (i := 14) (.bool false) (d := some 32) rfl (by kernel_rfl) (by kernel_rfl) (by kernel_rfl) (by kernel_rfl) (fun _ _ _ h => h) (by kernel_rfl) (fun W hSw => by go_simp) (hS6) rfl ?_
              simp only [Act.put, List.setIfInBounds_toArray, List.set_cons_zero, List.set_cons_succ]
              refine takeY (i := 15) (.int .i64 ((k : Nat) : Int)) (d := some 33) rfl (by kernel_rfl) (by kernel_rfl) (by kernel_rfl) (by kernel_rfl) (fun _ _ _ h => h) (by kernel_rfl) (fun W hSw => by go_simp) (hS6) rfl ?_
              simp only [Act.put, List.setIfInBounds_toArray, List.set_cons_zero, List.set_cons_succ]
              refine takeY (i := 16) (.bool true) (d := some 34) rfl (by kernel_rfl) (by kernel_rfl) (by kernel_rfl) (by kernel_rfl) (fun _ _ _ h => h) (by kernel_rfl) (fun W hSw => by go_simp) (hS6) rfl ?_
              simp only [Act.put, List.setIfInBounds_toArray, List.set_cons_zero, List.set_cons_succ]
              refine takeY (i := 17) (.bool true) (d := some 35) rfl (by kernel_rfl) (by kernel_rfl) (by kernel_rfl) (by kernel_rfl) (fun _ _ _ h => h) (by kernel_rfl) (fun W hSw => by go_simp) (hS6) rfl ?_
              simp only [Act.put, List.setIfInBounds_toArray, List.set_cons_zero, List.set_cons_succ]
              refine takeY (i := 18) (.bool true) (d := some 36) rfl (by kernel_rfl) (by kernel_rfl) (by kernel_rfl) (by kernel_rfl) (fun _ _ _ h => h) (by kernel_rfl) (fun W hSw => by go_simp) (hS6) rfl ?_
              simp only [Act.put, List.setIfInBounds_toArray, List.set_cons_zero, List.set_cons_succ]
              refine takeN (i := 19) (d := some 37) rfl (by kernel_rfl) (by kernel_rfl) (by kernel_rfl) (by kernel_rfl) (fun _ _ _ h => h) (by kernel_rfl) (hS6) rfl ?_
              simp only [Act.put, List.setIfInBounds_toArray, List.set_cons_zero, List.set_cons_succ]
              refine takeN (i := 20) (d := some 38) rfl (by kernel_rfl) (by kernel_rfl) (by kernel_rfl) (by kernel_rfl) (fun _ _ _ h => h) (by kernel_rfl) (hS6) rfl ?_
              simp only [Act.put, List.setIfInBounds_toArray, List.set_cons_zero, List.set_cons_succ]
              refine takeY (i := 21) (.bool true) (d := some 39) rfl (by kernel_rfl) (by kernel_rfl) (by kernel_rfl) (by kernel_rfl) (fun _ _ _ h => h) (by kernel_rfl) (fun W hSw => by go_simp) (hS6) rfl ?_
              simp only [Act.put, List.setIfInBounds_toArray, List.set_cons_zero, List.set_cons_succ]
              refine takeE (i := 22) (.bool true) (d := some 40) rfl (by kernel_rfl) (by kernel_rfl) (by kernel_rfl) (by kernel_rfl) (fun _ _ _ h => h) rfl (fun W hSw => by go_simp) (hS6) rfl ?_
              simp only [Act.put, List.setIfInBounds_toArray, List.set_cons_zero, List.set_cons_succ]
              refine doneD (by kernel_rfl) ?_ _
              refine OnlyNorm.normal ?_
              have HK6 := hid (heap_below hS6 HK0.out hlt0)
              have HT6 := hid (show Trs 56 w6 (g + 1) _ ts from Trs.below HT.out hS6)
              have HB6 := hid (HB.out.trans (hS6.mono (by omega)))
              have hs6 := hS6.size
              go_wp2_with (at_builtin; go_must (refine wp_append_tri triAsp Tryd.underlying48 rfl _ _ rfl (g + 1) _ ts rfl (World.ownsRow.alloc HT6.out _) (k, x, b) w6.heap.size 1 rfl (tri_new (k, x, b) w6 56 _ HE.out) (by omega) (by simp; omega) ?_); intro v' w7 ho7 hgr7)
              have hT6 := World.ownsRow.alloc HT6.out (.cells #[.int .i64 ((k : Nat) : Int), .int .i64 (((x : Nat) : Int) + 1), .int .i64 bi] 56)
              have hB7 := tri_below (HB6.out.alloc (show g ≤ w6.heap.size by omega) (.cells #[.int .i64 ((k : Nat) : Int), .int .i64 (((x : Nat) : Int) + 1), .int .i64 bi] 56)) hgr7 hT6 (by omega) (by simp; omega)
              have hK7 := tri_heap hgr7 hT6 ((heap_alloc_old w6 (.cells #[.int .i64 ((k : Nat) : Int), .int .i64 (((x : Nat) : Int) + 1), .int .i64 bi] 56) (heap_lt HK6.out)).trans HK6.out) (by omega)
              go_roundw
              case rel => exact ⟨x + 1, by omega, by go_num, by rw [HY.out HL.out]; exact ho7, hK7, hB7⟩
              case measure => simp [intOf]; omega
            · have e4 : (((k : Nat) : Int) == 4) = false := by simp; omega
              by_cases h6 : k = 6
              · have e6 : (((k : Nat) : Int) == 6) = true := by simp; omega
                have HL := hid (looks_yes k (by omega))
                clear h2 h3 h4 h6
                go_wp2_with (go_at_call 38; refine (HPx.out _).mono ?_; rintro e w' ⟨rfl, rfl⟩)
                have hS4 : Below wr.heap.size wr wr.drew := below_drew (Below.refl _ _)
                refine regD (fun W => Below wr.heap.size wr W) (fun _ => true) (by kernel_rfl) ?_
                refine takeE (i := 0) (.agg (irow 12 (cst h))) (d := some 18) rfl (by kernel_rfl) (by kernel_rfl) (by kernel_rfl) (by kernel_rfl) (fun _ _ _ h => h) rfl (fun W hSw => by exact exec_ldrow arrHouses rfl rfl (heap_below hSw HK0.out hlt0)) (hS4) rfl ?_
                simp only [Act.put, List.setIfInBounds_toArray, List.set_cons_zero, List.set_cons_succ]
                refine takeE (i := 1) (.int .i64 (((x : Nat) : Int) + 1)) (d := some 19) rfl (by kernel_rfl) (by kernel_rfl) (by kernel_rfl) (by kernel_rfl) (fun _ _ _ h => h) rfl (fun W hSw => by rfl) (hS4) rfl ?_
                simp only [Act.put, List.setIfInBounds_toArray, List.set_cons_zero, List.set_cons_succ]
                refine takeE (i := 3) (.agg (irow 12 (cst h))) (d := some 21) rfl (by kernel_rfl) (by kernel_rfl) (by kernel_rfl) (by kernel_rfl) (fun _ _ _ h => h) rfl (fun W hSw => by exact exec_ldrow arrHouses rfl rfl (heap_below hSw HK0.out hlt0)) (hS4) rfl ?_
                simp only [Act.put, List.setIfInBounds_toArray, List.set_cons_zero, List.set_cons_succ]
                refine takeE (i := 4) (.int .i64 ai) (d := some 22) rfl (by kernel_rfl) (by kernel_rfl) (by kernel_rfl) (by kernel_rfl) (fun _ _ _ h => h) rfl (fun W hSw => by rfl) (hS4) rfl ?_
                simp only [Act.put, List.setIfInBounds_toArray, List.set_cons_zero, List.set_cons_succ]
                refine stepD 2 (by kernel_rfl) rfl rfl (fun K hK => ?_)
                go_simp
                go_at_call 16
                refine (HAx'.out _).mono ?_
                rintro e w5 ⟨rfl, hb⟩
                have hS5 : Below wr.heap.size wr w5 := hS4.trans (hb.mono hS4.size)
                go_simp
                refine hK _ _ (fun _ => hS5) ?_
                clear hK K
                refine stepD 5 (by kernel_rfl) rfl rfl (fun K hK => ?_)
                go_simp
                go_at_call 16
                refine (HAa.out _).mono ?_
                rintro e w6 ⟨rfl, hb⟩
                have hS6 : Below wr.heap.size wr w6 := hS5.trans (hb.mono hS5.size)
                go_simp
                refine hK _ _ (fun _ => hS6) ?_
                clear hK K
                refine takeE (i := 6) (.bool true) (d := some 24) rfl (by kernel_rfl) (by kernel_rfl) (by kernel_rfl) (by kernel_rfl) (fun _ _ _ h => h) rfl (fun W hSw => by go_simp) (hS6) rfl ?_
                simp only [Act.put, List.setIfInBounds_toArray, List.set_cons_zero, List.set_cons_succ]
                refine takeE (i := 7) (.bool true) (d := some 25) rfl (by kernel_rfl) (by kernel_rfl) (by kernel_rfl) (by kernel_rfl) (fun _ _ _ h => h) rfl (fun W hSw => by go_simp) (hS6) rfl ?_
                simp only [Act.put, List.setIfInBounds_toArray, List.set_cons_zero, List.set_cons_succ]
                refine takeY (i := 8) (.int .i64 ((k : Nat) : Int)) (d := some 26) rfl (by kernel_rfl) (by kernel_rfl) (by kernel_rfl) (by kernel_rfl) (fun _ _ _ h => h) (by kernel_rfl) (fun W hSw => by go_simp) (hS6) rfl ?_
                simp only [Act.put, List.setIfInBounds_toArray, List.set_cons_zero, List.set_cons_succ]
                refine takeY (i := 9) (.bool false) (d := some 27) rfl (by kernel_rfl) (by kernel_rfl) (by kernel_rfl) (by kernel_rfl) (fun _ _ _ h => h) (by kernel_rfl) (fun W hSw => by go_simp) (hS6) rfl ?_
                simp only [Act.put, List.setIfInBounds_toArray, List.set_cons_zero, List.set_cons_succ]
                refine takeY (i := 10) (.bool false) (d := some 28) rfl (by kernel_rfl) (by kernel_rfl) (by kernel_rfl) (by kernel_rfl) (fun _ _ _ h => h) (by kernel_rfl) (fun W hSw => by go_simp) (hS6) rfl ?_
                simp only [Act.put, List.setIfInBounds_toArray, List.set_cons_zero, List.set_cons_succ]
                refine takeY (i := 11) (.int .i64 ((k : Nat) : Int)) (d := some 29) rfl (by kernel_rfl) (by kernel_rfl) (by kernel_rfl) (by kernel_rfl) (fun _ _ _ h => h) (by kernel_rfl) (fun W hSw => by go_simp) (hS6) rfl ?_
                simp only [Act.put, List.setIfInBounds_toArray, List.set_cons_zero, List.set_cons_succ]
                refine takeY (i := 12) (.bool false) (d := some 30) rfl (by kernel_rfl) (by kernel_rfl) (by kernel_rfl) (by kernel_rfl) (fun _ _ _ h => h) (by kernel_rfl) (fun W hSw => by go_simp) (hS6) rfl ?_
                simp only [Act.put, List.setIfInBounds_toArray, List.set_cons_zero, List.set_cons_succ]
                refine takeY (i := 13) (.bool false) (d := some 31) rfl (by kernel_rfl) (by kernel_rfl) (by kernel_rfl) (by kernel_rfl) (fun _ _ _ h => h) (by kernel_rfl) (fun W hSw => by go_simp) (hS6) rfl ?_
                simp only [Act.put, List.setIfInBounds_toArray, List.set_cons_zero, List.set_cons_succ]
                refine takeY (i := 14) (.bool false) (d := some 32) rfl (by kernel_rfl) (by kernel_rfl) (by kernel_rfl) (by kernel_rfl) (fun _ _ _ h => h) (by kernel_rfl) (fun W hSw => by go_simp) (hS6) rfl ?_
                simp only [Act.put, List.setIfInBounds_toArray, List.set_cons_zero, List.set_cons_succ]
                refine takeY (i := 15) (.int .i64 ((k : Nat) : Int)) (d := some 33) rfl (by kernel_rfl) (by kernel_rfl) (by kernel_rfl) (by kernel_rfl) (fun _ _ _ h => h) (by kernel_rfl) (fun W hSw => by go_simp) (hS6) rfl ?_
                simp only [Act.put, List.setIfInBounds_toArray, List.set_cons_zero, List.set_cons_succ]
                refine takeY (i := 16) (.bool false) (d := some 34) rfl (by kernel_rfl) (by kernel_rfl) (by kernel_rfl) (by kernel_rfl) (fun _ _ _ h => h) (by kernel_rfl) (fun W hSw => by go_simp) (hS6) rfl ?_
                simp only [Act.put, List.setIfInBounds_toArray, List.set_cons_zero, List.set_cons_succ]
                refine takeY (i := 17) (.bool false) (d := some 35) rfl (by kernel_rfl) (by kernel_rfl) (by kernel_rfl) (by kernel_rfl) (fun _ _ _ h => h) (by kernel_rfl) (fun W hSw => by go_simp) (hS6) rfl ?_
                simp only [Act.put, List.setIfInBounds_toArray, List.set_cons_zero, List.set_cons_succ]
                refine takeY (i := 18) (.bool false) (d := some 36) rfl (by kernel_rfl) (by kernel_rfl) (by kernel_rfl) (by kernel_rfl) (fun _ _ _ h => h) (by kernel_rfl) (fun W hSw => by go_simp) (hS6) rfl ?_
                simp only [Act.put, List.setIfInBounds_toArray, List.set_cons_zero, List.set_cons_succ]
                refine takeY (i := 19) (.int .i64 ((k : Nat) : Int)) (d := some 37) rfl (by kernel_rfl) (by kernel_rfl) (by kernel_rfl) (by kernel_rfl) (fun _ _ _ h => h) (by kernel_rfl) (fun W hSw => by go_simp) (hS6) rfl ?_
                simp only [Act.put, List.setIfInBounds_toArray, List.set_cons_zero, List.set_cons_succ]
                refine takeY (i := 20) (.bool true) (d := some 38) rfl (by kernel_rfl) (by kernel_rfl) (by kernel_rfl) (by kernel_rfl) (fun _ _ _ h => h) (by kernel_rfl) (fun W hSw => by go_simp) (hS6) rfl ?_
                simp only [Act.put, List.setIfInBounds_toArray, List.set_cons_zero, List.set_cons_succ]
                refine takeY (i := 21) (.bool true) (d := some 39) rfl (by kernel_rfl) (by kernel_rfl) (by kernel_rfl) (by kernel_rfl) (fun _ _ _ h => h) (by kernel_rfl) (fun W hSw => by go_simp) (hS6) rfl ?_
                simp only [Act.put, List.setIfInBounds_toArray, List.set_cons_zero, List.set_cons_succ]
                refine takeE (i := 22) (.bool true) (d := some 40) rfl (by kernel_rfl) (by kernel_rfl) (by kernel_rfl) (by kernel_rfl) (fun _ _ _ h => h) rfl (fun W hSw => by go_simp) (hS6) rfl ?_
                simp only [Act.put, List.setIfInBounds_toArray, List.set_cons_zero, List.set_cons_succ]
                refine doneD (by kernel_rfl) ?_ _
                refine OnlyNorm.normal ?_
                have HK6 := hid (heap_below hS6 HK0.out hlt0)
                have HT6 := hid (show Trs 56 w6 (g + 1) _ ts from Trs.below HT.out hS6)
                have HB6 := hid (HB.out.trans (hS6.mono (by omega)))
                have hs6 := hS6.size
                go_wp2_with (at_builtin; go_must (refine wp_append_tri triAsp Tryd.underlying48 rfl _ _ rfl (g + 1) _ ts rfl (World.ownsRow.alloc HT6.out _) (k, x, b) w6.heap.size 1 rfl (tri_new (k, x, b) w6 56 _ HE.out) (by omega) (by simp; omega) ?_); intro v' w7 ho7 hgr7)
                have hT6 := World.ownsRow.alloc HT6.out (.cells #[.int .i64 ((k : Nat) : Int), .int .i64 (((x : Nat) : Int) + 1), .int .i64 bi] 56)
                have hB7 := tri_below (HB6.out.alloc (show g ≤ w6.heap.size by omega) (.cells #[.int .i64 ((k : Nat) : Int), .int .i64 (((x : Nat) : Int) + 1), .int .i64 bi] 56)) hgr7 hT6 (by omega) (by simp; omega)
                have hK7 := tri_heap hgr7 hT6 ((heap_alloc_old w6 (.cells #[.int .i64 ((k : Nat) : Int), .int .i64 (((x : Nat) : Int) + 1), .int .i64 bi] 56) (heap_lt HK6.out)).trans HK6.out) (by omega)
                go_roundw
                case rel => exact ⟨x + 1, by omega, by go_num, by rw [HY.out HL.out]; exact ho7, hK7, hB7⟩
                case measure => simp [intOf]; omega
              · have e6 : (((k : Nat) : Int) == 6) = false := by simp; omega
                have HL := hid (looks_no k (by omega))
                clear h2 h3 h4 h6
                go_wp2_with (go_at_call 38; refine (HPx.out _).mono ?_; rintro e w' ⟨rfl, rfl⟩)
                have hS4 : Below wr.heap.size wr wr.drew := below_drew (Below.refl _ _)
                refine regD (fun W => Below wr.heap.size wr W) (fun _ => true) (by kernel_rfl) ?_
                refine takeE (i := 0) (.agg (irow 12 (cst h))) (d := some 18) rfl (by kernel_rfl) (by kernel_rfl) (by kernel_rfl) (by kernel_rfl) (fun _ _ _ h => h) rfl (fun W hSw => by exact exec_ldrow arrHouses rfl rfl (heap_below hSw HK0.out hlt0)) (hS4) rfl ?_
                simp only [Act.put, List.setIfInBounds_toArray, List.set_cons_zero, List.set_cons_succ]
                refine takeE (i := 1) (.int .i64 (((x : Nat) : Int) + 1)) (d := some 19) rfl (by kernel_rfl) (by kernel_rfl) (by kernel_rfl) (by kernel_rfl) (fun _ _ _ h => h) rfl (fun W hSw => by rfl) (hS4) rfl ?_
                simp only [Act.put, List.setIfInBounds_toArray, List.set_cons_zero, List.set_cons_succ]
                refine takeE (i := 3) (.agg (irow 12 (cst h))) (d := some 21) rfl (by kernel_rfl) (by kernel_rfl) (by kernel_rfl) (by kernel_rfl) (fun _ _ _ h => h) rfl (fun W hSw => by exact exec_ldrow arrHouses rfl rfl (heap_below hSw HK0.out hlt0)) (hS4) rfl ?_
                simp only [Act.put, List.setIfInBounds_toArray, List.set_cons_zero, List.set_cons_succ]
                refine takeE (i := 4) (.int .i64 ai) (d := some 22) rfl (by kernel_rfl) (by kernel_rfl) (by kernel_rfl) (by kernel_rfl) (fun _ _ _ h => h) rfl (fun W hSw => by rfl) (hS4) rfl ?_
                simp only [Act.put, List.setIfInBounds_toArray, List.set_cons_zero, List.set_cons_succ]
                refine stepD 2 (by kernel_rfl) rfl rfl (fun K hK => ?_)
                go_simp
                go_at_call 16
                refine (HAx'.out _).mono ?_
                rintro e w5 ⟨rfl, hb⟩
                have hS5 : Below wr.heap.size wr w5 := hS4.trans (hb.mono hS4.size)
                go_simp
                refine hK _ _ (fun _ => hS5) ?_
                clear hK K
                refine stepD 5 (by kernel_rfl) rfl rfl (fun K hK => ?_)
                go_simp
                go_at_call 16
                refine (HAa.out _).mono ?_
                rintro e w6 ⟨rfl, hb⟩
                have hS6 : Below wr.heap.size wr w6 := hS5.trans (hb.mono hS5.size)
                go_simp
                refine hK _ _ (fun _ => hS6) ?_
                clear hK K
                refine takeE (i := 6) (.bool true) (d := some 24) rfl (by kernel_rfl) (by kernel_rfl) (by kernel_rfl) (by kernel_rfl) (fun _ _ _ h => h) rfl (fun W hSw => by go_simp) (hS6) rfl ?_
                simp only [Act.put, List.setIfInBounds_toArray, List.set_cons_zero, List.set_cons_succ]
                refine takeE (i := 7) (.bool true) (d := some 25) rfl (by kernel_rfl) (by kernel_rfl) (by kernel_rfl) (by kernel_rfl) (fun _ _ _ h => h) rfl (fun W hSw => by go_simp) (hS6) rfl ?_
                simp only [Act.put, List.setIfInBounds_toArray, List.set_cons_zero, List.set_cons_succ]
                refine takeY (i := 8) (.int .i64 ((k : Nat) : Int)) (d := some 26) rfl (by kernel_rfl) (by kernel_rfl) (by kernel_rfl) (by kernel_rfl) (fun _ _ _ h => h) (by kernel_rfl) (fun W hSw => by go_simp) (hS6) rfl ?_
                simp only [Act.put, List.setIfInBounds_toArray, List.set_cons_zero, List.set_cons_succ]
                refine takeY (i := 9) (.bool false) (d := some 27) rfl (by kernel_rfl) (by kernel_rfl) (by kernel_rfl) (by kernel_rfl) (fun _ _ _ h => h) (by kernel_rfl) (fun W hSw => by go_simp) (hS6) rfl ?_
                simp only [Act.put, List.setIfInBounds_toArray, List.set_cons_zero, List.set_cons_succ]
                refine takeY (i := 10) (.bool false) (d := some 28) rfl (by kernel_rfl) (by kernel_rfl) (by kernel_rfl) (by kernel_rfl) (fun _ _ _ h => h) (by kernel_rfl) (fun W hSw => by go_simp) (hS6) rfl ?_
                simp only [Act.put, List.setIfInBounds_toArray, List.set_cons_zero, List.set_cons_succ]
                refine takeY (i := 11) (.int .i64 ((k : Nat) : Int)) (d := some 29) rfl (by kernel_rfl) (by kernel_rfl) (by kernel_rfl) (by kernel_rfl) (fun _ _ _ h => h) (by kernel_rfl) (fun W hSw => by go_simp) (hS6) rfl ?_
                simp only [Act.put, List.setIfInBounds_toArray, List.set_cons_zero, List.set_cons_succ]
                refine takeY (i := 12) (.bool false) (d := some 30) rfl (by kernel_rfl) (by kernel_rfl) (by kernel_rfl) (by kernel_rfl) (fun _ _ _ h => h) (by kernel_rfl) (fun W hSw => by go_simp) (hS6) rfl ?_
                simp only [Act.put, List.setIfInBounds_toArray, List.set_cons_zero, List.set_cons_succ]
                refine takeY (i := 13) (.bool false) (d := some 31) rfl (by kernel_rfl) (by kernel_rfl) (by kernel_rfl) (by kernel_rfl) (fun _ _ _ h => h) (by kernel_rfl) (fun W hSw => by go_simp) (hS6) rfl ?_
                simp only [Act.put, List.setIfInBounds_toArray, List.set_cons_zero, List.set_cons_succ]
                refine takeY (i := 14) (.bool false) (d := some 32) rfl (by kernel_rfl) (by kernel_rfl) (by kernel_rfl) (by kernel_rfl) (fun _ _ _ h => h) (by kernel_rfl) (fun W hSw => by go_simp) (hS6) rfl ?_
                simp only [Act.put, List.setIfInBounds_toArray, List.set_cons_zero, List.set_cons_succ]
                refine takeY (i := 15) (.int .i64 ((k : Nat) : Int)) (d := some 33) rfl (by kernel_rfl) (by kernel_rfl) (by kernel_rfl) (by kernel_rfl) (fun _ _ _ h => h) (by kernel_rfl) (fun W hSw => by go_simp) (hS6) rfl ?_
                simp only [Act.put, List.setIfInBounds_toArray, List.set_cons_zero, List.set_cons_succ]
                refine takeY (i := 16) (.bool false) (d := some 34) rfl (by kernel_rfl) (by kernel_rfl) (by kernel_rfl) (by kernel_rfl) (fun _ _ _ h => h) (by kernel_rfl) (fun W hSw => by go_simp) (hS6) rfl ?_
                simp only [Act.put, List.setIfInBounds_toArray, List.set_cons_zero, List.set_cons_succ]
                refine takeY (i := 17) (.bool false) (d := some 35) rfl (by kernel_rfl) (by kernel_rfl) (by kernel_rfl) (by kernel_rfl) (fun _ _ _ h => h) (by kernel_rfl) (fun W hSw => by go_simp) (hS6) rfl ?_
                simp only [Act.put, List.setIfInBounds_toArray, List.set_cons_zero, List.set_cons_succ]
                refine takeY (i := 18) (.bool false) (d := some 36) rfl (by kernel_rfl) (by kernel_rfl) (by kernel_rfl) (by kernel_rfl) (fun _ _ _ h => h) (by kernel_rfl) (fun W hSw => by go_simp) (hS6) rfl ?_
                simp only [Act.put, List.setIfInBounds_toArray, List.set_cons_zero, List.set_cons_succ]
                refine takeY (i := 19) (.int .i64 ((k : Nat) : Int)) (d := some 37) rfl (by kernel_rfl) (by kernel_rfl) (by kernel_rfl) (by kernel_rfl) (fun _ _ _ h => h) (by kernel_rfl) (fun W hSw => by go_simp) (hS6) rfl ?_
                simp only [Act.put, List.setIfInBounds_toArray, List.set_cons_zero, List.set_cons_succ]
                refine takeY (i := 20) (.bool false) (d := some 38) rfl (by kernel_rfl) (by kernel_rfl) (by kernel_rfl) (by kernel_rfl) (fun _ _ _ h => h) (by kernel_rfl) (fun W hSw => by go_simp) (hS6) rfl ?_
                simp only [Act.put, List.setIfInBounds_toArray, List.set_cons_zero, List.set_cons_succ]
                refine takeY (i := 21) (.bool false) (d := some 39) rfl (by kernel_rfl) (by kernel_rfl) (by kernel_rfl) (by kernel_rfl) (fun _ _ _ h => h) (by kernel_rfl) (fun W hSw => by go_simp) (hS6) rfl ?_
                simp only [Act.put, List.setIfInBounds_toArray, List.set_cons_zero, List.set_cons_succ]
                refine takeE (i := 22) (.bool false) (d := some 40) rfl (by kernel_rfl) (by kernel_rfl) (by kernel_rfl) (by kernel_rfl) (fun _ _ _ h => h) rfl (fun W hSw => by go_simp) (hS6) rfl ?_
                simp only [Act.put, List.setIfInBounds_toArray, List.set_cons_zero, List.set_cons_succ]
                refine doneD (by kernel_rfl) ?_ _
                refine OnlyNorm.normal ?_
                have HK6 := hid (heap_below hS6 HK0.out hlt0)
                have HT6 := hid (show Trs 56 w6 (g + 1) _ ts from Trs.below HT.out hS6)
                have HB6 := hid (HB.out.trans (hS6.mono (by omega)))
                have hs6 := hS6.size
                go_wp2_with fail
                go_roundw
                case rel => exact ⟨x + 1, by omega, by go_num, by rw [HN.out HL.out]; exact HT6.out, HK6.out, HB6.out⟩
                case measure => simp [intOf]; omega
      · have hfe : (((f : Nat) : Int) == ((fa : Nat) : Int)) = false := by simp; omega
        have hff' : (f == fa) = false := by simpa using hff
        rw [hff', Bool.and_false] at HY HN
        have HL : Hid (looks k = looks k) := hid rfl
        clear hff hff'
        go_wp2_with (go_at_call 38; refine (HPx.out _).mono ?_; rintro e w' ⟨rfl, rfl⟩)
        have hS4 : Below wr.heap.size wr wr.drew := below_drew (Below.refl _ _)
        refine regD (fun W => Below wr.heap.size wr W) (fun _ => true) (by kernel_rfl) ?_
        refine takeE (i := 0) (.agg (irow 12 (cst h))) (d := some 18) rfl (by kernel_rfl) (by kernel_rfl) (by kernel_rfl) (by kernel_rfl) (fun _ _ _ h => h) rfl (fun W hSw => by exact exec_ldrow arrHouses rfl rfl (heap_below hSw HK0.out hlt0)) (hS4) rfl ?_
        simp only [Act.put, List.setIfInBounds_toArray, List.set_cons_zero, List.set_cons_succ]
        refine takeE (i := 1) (.int .i64 (((x : Nat) : Int) + 1)) (d := some 19) rfl (by kernel_rfl) (by kernel_rfl) (by kernel_rfl) (by kernel_rfl) (fun _ _ _ h => h) rfl (fun W hSw => by rfl) (hS4) rfl ?_
        simp only [Act.put, List.setIfInBounds_toArray, List.set_cons_zero, List.set_cons_succ]
        refine takeE (i := 3) (.agg (irow 12 (cst h))) (d := some 21) rfl (by kernel_rfl) (by kernel_rfl) (by kernel_rfl) (by kernel_rfl) (fun _ _ _ h => h) rfl (fun W hSw => by exact exec_ldrow arrHouses rfl rfl (heap_below hSw HK0.out hlt0)) (hS4) rfl ?_
        simp only [Act.put, List.setIfInBounds_toArray, List.set_cons_zero, List.set_cons_succ]
        refine takeE (i := 4) (.int .i64 ai) (d := some 22) rfl (by kernel_rfl) (by kernel_rfl) (by kernel_rfl) (by kernel_rfl) (fun _ _ _ h => h) rfl (fun W hSw => by rfl) (hS4) rfl ?_
        simp only [Act.put, List.setIfInBounds_toArray, List.set_cons_zero, List.set_cons_succ]
        refine stepD 2 (by kernel_rfl) rfl rfl (fun K hK => ?_)
        go_simp
        go_at_call 16
        refine (HAx'.out _).mono ?_
        rintro e w5 ⟨rfl, hb⟩
        have hS5 : Below wr.heap.size wr w5 := hS4.trans (hb.mono hS4.size)
        go_simp
        refine hK _ _ (fun _ => hS5) ?_
        clear hK K
        refine stepD 5 (by kernel_rfl) rfl rfl (fun K hK => ?_)
        go_simp
        go_at_call 16
        refine (HAa.out _).mono ?_
        rintro e w6 ⟨rfl, hb⟩
        have hS6 : Below wr.heap.size wr w6 := hS5.trans (hb.mono hS5.size)
        go_simp
        refine hK _ _ (fun _ => hS6) ?_
        clear hK K
        refine takeE (i := 6) (.bool false) (d := some 24) rfl (by kernel_rfl) (by kernel_rfl) (by kernel_rfl) (by kernel_rfl) (fun _ _ _ h => h) rfl (fun W hSw => by go_simp) (hS6) rfl ?_
        simp only [Act.put, List.setIfInBounds_toArray, List.set_cons_zero, List.set_cons_succ]
        refine takeE (i := 7) (.bool false) (d := some 25) rfl (by kernel_rfl) (by kernel_rfl) (by kernel_rfl) (by kernel_rfl) (fun _ _ _ h => h) rfl (fun W hSw => by go_simp) (hS6) rfl ?_
        simp only [Act.put, List.setIfInBounds_toArray, List.set_cons_zero, List.set_cons_succ]
        refine takeN (i := 8) (d := some 26) rfl (by kernel_rfl) (by kernel_rfl) (by kernel_rfl) (by kernel_rfl) (fun _ _ _ h => h) (by kernel_rfl) (hS6) rfl ?_
        simp only [Act.put, List.setIfInBounds_toArray, List.set_cons_zero, List.set_cons_succ]
        refine takeN (i := 9) (d := some 27) rfl (by kernel_rfl) (by kernel_rfl) (by kernel_rfl) (by kernel_rfl) (fun _ _ _ h => h) (by kernel_rfl) (hS6) rfl ?_
        simp only [Act.put, List.setIfInBounds_toArray, List.set_cons_zero, List.set_cons_succ]
        refine takeN (i := 10) (d := some 28) rfl (by kernel_rfl) (by kernel_rfl) (by kernel_rfl) (by kernel_rfl) (fun _ _ _ h => h) (by kernel_rfl) (hS6) rfl ?_
        simp only [Act.put, List.setIfInBounds_toArray, List.set_cons_zero, List.set_cons_succ]
        refine takeN (i := 11) (d := some 29) rfl (by kernel_rfl) (by kernel_rfl) (by kernel_rfl) (by kernel_rfl) (fun _ _ _ h => h) (by kernel_rfl) (hS6) rfl ?_
        simp only [Act.put, List.setIfInBounds_toArray, List.set_cons_zero, List.set_cons_succ]
        refine takeN (i := 12) (d := some 30) rfl (by kernel_rfl) (by kernel_rfl) (by kernel_rfl) (by kernel_rfl) (fun _ _ _ h => h) (by kernel_rfl) (hS6) rfl ?_
        simp only [Act.put, List.setIfInBounds_toArray, List.set_cons_zero, List.set_cons_succ]
        refine takeN (i := 13) (d := some 31) rfl (by kernel_rfl) (by kernel_rfl) (by kernel_rfl) (by kernel_rfl) (fun _ _ _ h => h) (by kernel_rfl) (hS6) rfl ?_
        simp only [Act.put, List.setIfInBounds_toArray, List.set_cons_zero, List.set_cons_succ]
        refine takeN (i := 14) (d := some 32) rfl (by kernel_rfl) (by kernel_rfl) (by kernel_rfl) (by kernel_rfl) (fun _ _ _ h => h) (by kernel_rfl) (hS6) rfl ?_
        simp only [Act.put, List.setIfInBounds_toArray, List.set_cons_zero, List.set_cons_succ]
        refine takeN (i := 15) (d := some 33) rfl (by kernel_rfl) (by kernel_rfl) (by kernel_rfl) (by kernel_rfl) (fun _ _ _ h => h) (by kernel_rfl) (hS6) rfl ?_
        simp only [Act.put, List.setIfInBounds_toArray, List.set_cons_zero, List.set_cons_succ]
        refine takeN (i := 16) (d := some 34) rfl (by kernel_rfl) (by kernel_rfl) (by kernel_rfl) (by kernel_rfl) (fun _ _ _ h => h) (by kernel_rfl) (hS6) rfl ?_
        simp only [Act.put, List.setIfInBounds_toArray, List.set_cons_zero, List.set_cons_succ]
        refine takeN (i := 17) (d := some 35) rfl (by kernel_rfl) (by kernel_rfl) (by kernel_rfl) (by kernel_rfl) (fun _ _ _ h => h) (by kernel_rfl) (hS6) rfl ?_
        simp only [Act.put, List.setIfInBounds_toArray, List.set_cons_zero, List.set_cons_succ]
        refine takeN (i := 18) (d := some 36) rfl (by kernel_rfl) (by kernel_rfl) (by kernel_rfl) (by kernel_rfl) (fun _ _ _ h => h) (by kernel_rfl) (hS6) rfl ?_
        simp only [Act.put, List.setIfInBounds_toArray, List.set_cons_zero, List.set_cons_succ]
        refine takeN (i := 19) (d := some 37) rfl (by kernel_rfl) (by kernel_rfl) (by kernel_rfl) (by kernel_rfl) (fun _ _ _ h => h) (by kernel_rfl) (hS6) rfl ?_
        simp only [Act.put, List.setIfInBounds_toArray, List.set_cons_zero, List.set_cons_succ]
        refine takeN (i := 20) (d := some 38) rfl (by kernel_rfl) (by kernel_rfl) (by kernel_rfl) (by kernel_rfl) (fun _ _ _ h => h) (by kernel_rfl) (hS6) rfl ?_
        simp only [Act.put, List.setIfInBounds_toArray, List.set_cons_zero, List.set_cons_succ]
        refine takeN (i := 21) (d := some 39) rfl (by kernel_rfl) (by kernel_rfl) (by kernel_rfl) (by kernel_rfl) (fun _ _ _ h => h) (by kernel_rfl) (hS6) rfl ?_
        simp only [Act.put, List.setIfInBounds_toArray, List.set_cons_zero, List.set_cons_succ]
        refine takeE (i := 22) (.bool false) (d := some 40) rfl (by kernel_rfl) (by kernel_rfl) (by kernel_rfl) (by kernel_rfl) (fun _ _ _ h => h) rfl (fun W hSw => by go_simp) (hS6) rfl ?_
        simp only [Act.put, List.setIfInBounds_toArray, List.set_cons_zero, List.set_cons_succ]
        refine doneD (by kernel_rfl) ?_ _
        refine OnlyNorm.normal ?_
        have HK6 := hid (heap_below hS6 HK0.out hlt0)
        have HT6 := hid (show Trs 56 w6 (g + 1) _ ts from Trs.below HT.out hS6)
        have HB6 := hid (HB.out.trans (hS6.mono (by omega)))
        have hs6 := hS6.size
        go_wp2_with fail
        go_roundw
        case rel => exact ⟨x + 1, by omega, by go_num, by rw [HN.out (by simp)]; exact HT6.out, HK6.out, HB6.out⟩
        case measure => simp [intOf]; omega
    · have hge : ¬ ((x : Nat) : Int) + 1 ≤ 12 := by omega
      obtain rfl : x = 12 := by omega
      have hT9 := HT.out
      rw [aS_12] at hT9
      have HT9 := hid hT9
      clear hT9
      go_wp2_with fail
      go_ret
      exact ⟨_, rfl, HT9.out.reads, hg ▸ HB.out⟩
theorem readT_form {W : World} {v : Value} {ts : List Tie3} (h : ReadsT W v ts) : ∃ p c, v = .slice p ts.length c ∧ ∀ i (hi : i < ts.length), ∃ G, p = some ⟨G, 0, none⟩ ∧ G < W.heap.size ∧
    W.cell? ⟨G, i * 3, none⟩ = some (.int .i64 ((ts[i].1 : Nat) : Int)) ∧ W.cell? ⟨G, i * 3 + 1, none⟩ = some (.int .i64 ((ts[i].2.1 + 1 : Nat) : Int)) ∧ W.cell? ⟨G, i * 3 + 2, none⟩ = some (.int .i64 ((ts[i].2.2 + 1 : Nat) : Int)) := by
  rcases h with ⟨rfl, h⟩ | ⟨G, c, h1, h2, h3⟩
  · exact ⟨_, _, h, fun i hi => absurd hi (by simp)⟩
  · exact ⟨_, c, h1, fun i hi => ⟨G, rfl, h2, readT_cell h3 i hi⟩⟩
theorem imin' (a b : Nat) : min ((a : Nat) : Int) ((b : Nat) : Int) = ((min a b : Nat) : Int) := by omega
def bK (ts : List Tie3) (j : Nat) : Nat := (ts.take j).foldl (fun m t => min m t.1) 9
theorem bK_step (ts : List Tie3) (j : Nat) (hj : j < ts.length) : bK ts (j + 1) = min (bK ts j) ts[j].1 := by
  unfold bK
  rw [List.take_add_one, List.getElem?_eq_getElem hj, Option.toList_some, List.foldl_append]
  rfl
theorem bK_le (ts : List Tie3) (j : Nat) : bK ts j ≤ 9 := (bestK_le (ts.take j) 9).1
theorem bK_all (ts : List Tie3) (n : Nat) (hn : ts.length = n) : bK ts n = bestK ts := by unfold bK bestK; rw [← hn, List.take_length]
def anyK (p : Nat → Bool) (ts : List Tie3) (j : Nat) : Bool := (ts.take j).any fun t => p t.1
theorem anyK_step (p : Nat → Bool) (ts : List Tie3) (j : Nat) (hj : j < ts.length) : anyK p ts (j + 1) = (anyK p ts j || p ts[j].1) := by
  unfold anyK
  rw [List.take_add_one, List.any_append, List.getElem?_eq_getElem hj]
  simp
theorem anyK_all (p : Nat → Bool) (ts : List Tie3) (n : Nat) (hn : ts.length = n) : anyK p ts n = ts.any fun t => p t.1 := by unfold anyK; rw [← hn, List.take_length]
def isGood (k : Nat) : Bool := k == 2 || k == 4
theorem judgeP_3 {h : Nat → Nat} {a b : Nat} (h2 : ¬ bestK (tiesR h a b) ≤ 2) (h4 : ¬ bestK (tiesR h a b) ≤ 4) : judgeN h a b = if ((aspR h a b).any fun t => isGood t.1) && !((aspR h a b).any fun t => !isGood t.1) then 3 else 4 := by
  rw [judge_same]
  unfold judgeP
  rw [if_neg h2, if_neg h4]
  rfl
theorem judgeP_1 {h : Nat → Nat} {a b : Nat} (h2 : bestK (tiesR h a b) ≤ 2) : judgeN h a b = 1 := by
  rw [judge_same]; unfold judgeP; rw [if_pos h2]
theorem judgeP_2 {h : Nat → Nat} {a b : Nat} (h2 : ¬ bestK (tiesR h a b) ≤ 2) (h4 : bestK (tiesR h a b) ≤ 4) : judgeN h a b = 2 := by
  rw [judge_same]; unfold judgeP; rw [if_neg h2, if_pos h4]
theorem tie_kind {h : Nat → Nat} {a b : Nat} (t : Tie3) (ht : t ∈ tiesR h a b) : 1 ≤ t.1 ∧ t.1 ≤ 4 := ((mem_tiesR h a b t).1 ht).1.1
set_option maxHeartbeats 4000000 in
theorem rJudge (h : Nat → Nat) (hh : ∀ i, i < 12 → h i < 16) (a b : Nat) (ha : a < 12) (hb : b < 12) (ai bi : Int) (ha' : ai = ((a : Nat) : Int) + 1) (hb' : bi = ((b : Nat) : Int) + 1) (w : World) :
    Calls Tryd.prog 33 #[.agg (irow 12 (cst h)), .int .i64 ai, .int .i64 bi] w fun e w' => e = .returned (.int .i64 ((judgeN h a b : Nat) : Int)) ∧ Below w.heap.size w w' := by
  have HTi := hid (fun W => rTies h hh a b ha hb ai bi ha' hb' W)
  have HAs := hid (fun W => rAspects h hh a b ha hb ai bi ha' hb' W)
  have HJ1 := hid (judgeP_1 (h := h) (a := a) (b := b))
  have HJ2 := hid (judgeP_2 (h := h) (a := a) (b := b))
  have HJ3 := hid (judgeP_3 (h := h) (a := a) (b := b))
  have HK1 := hid (tie_kind (h := h) (a := a) (b := b))
  have HK2 := hid (asp_kind h a b)
  have HL1 : (tiesR h a b).length ≤ 1000 := by rw [← tS_4]; exact tS_len h a b 4 0 0 (by omega) (by omega) (by omega)
  have HL2 : (aspR h a b).length ≤ 1000 := by rw [← aS_12]; have := aS_len h a b 12; omega
  have H0 := hid (heap_alloc_new w (.cells (irow 12 (cst h)) 24))
  have hB : Below w.heap.size w (w.alloc (.cells (irow 12 (cst h)) 24)) := (Below.refl _ _).alloc (Nat.le_refl _) _
  clear hh ha hb ha' hb'
  generalize tiesR h a b = ts at *
  generalize aspR h a b = al at *
  obtain ⟨z, hz⟩ : ∃ z, judgeN h a b = z := ⟨_, rfl⟩
  rw [hz] at HJ1 HJ2 HJ3 ⊢
  clear hz
  obtain ⟨g, hg⟩ : ∃ g, w.heap.size = g := ⟨_, rfl⟩
  go_enter Tryd.func33, Tryd.ntmps33
  go_upto_region 1 with fail
  generalize w.alloc (.cells (irow 12 (cst h)) 24) = w1 at *
  rw [hg] at H0 hB
  obtain ⟨n, hn⟩ : ∃ n, ts.length = n := ⟨_, rfl⟩
  have HN := hid hn
  rw [hn] at HL1
  clear hn
  go_wp2_with (first
    | (refine ldrow arrHouses _ rfl rfl _ rfl _ _ H0.out ?_)
    | (go_at_call 30; refine (HTi.out _).mono ?_; rintro e w2 ⟨v, rfl, hR, hb⟩; obtain ⟨p, c, rfl, hcl⟩ := readT_form hR; rw [HN.out]; have HCL := hid hcl; have hsz := hB.size; have H0 := hid (heap_below hb H0.out (heap_lt H0.out)); have hB := hB.trans (hb.mono (by omega)); clear hR hcl hb))
  go_loop [7, 9] (fun m i => ∃ j : Nat, j ≤ n ∧ i = .int .i64 j ∧ m = .int .i64 ((bK ts j : Nat) : Int)) (fun _ i => n - (intOf i).toNat)
  case atStart => exact ⟨0, by omega, rfl, rfl⟩
  case round =>
    obtain ⟨j, hj, rfl, rfl⟩ := hrel
    have hb9 := bK_le ts j
    by_cases hjt : j < n
    · have hjt' : ((j : Nat) : Int) < n := by omega
      have hj0 : (0 : Int) ≤ j := by omega
      have hjl : j < ts.length := by rw [HN.out]; exact hjt
      obtain ⟨G, rfl, hG, c0, c1, c2⟩ := HCL.out j hjl
      have HST := hid (bK_step ts j hjl)
      have hkd := HK1.out ts[j] (List.getElem_mem hjl)
      have HMin := hid (imin' (bK ts j) ts[j].1)
      generalize ts[j].1 = k at *
      generalize bK ts j = m at *
      clear c1 c2
      go_wp2_with fail
      go_round
      case rel => exact ⟨j + 1, by omega, by go_num, by rw [HST.out, ← HMin.out]⟩
      case measure => simp [intOf]; omega
    · have hge : ¬ ((j : Nat) : Int) < n := by omega
      obtain rfl : j = n := by omega
      have hbe := bK_all ts j HN.out
      rw [hbe] at hb9 ⊢
      clear hbe
      generalize bestK ts = m at *
      by_cases h2 : m ≤ 2
      · have d2 : decide (((m : Nat) : Int) ≤ 2) = true := by simp; omega
        have hz := hid (HJ1.out h2)
        clear h2
        go_wp2_with fail
        go_ret
        exact ⟨by rw [hz.out]; rfl, hg ▸ hB⟩
      · have d2 : decide (((m : Nat) : Int) ≤ 2) = false := by simp; omega
        by_cases h4 : m ≤ 4
        · have d4 : decide (((m : Nat) : Int) ≤ 4) = true := by simp; omega
          have hz := hid (HJ2.out h2 h4)
          clear h2 h4
          go_wp2_with fail
          go_ret
          exact ⟨by rw [hz.out]; rfl, hg ▸ hB⟩
        · have d4 : decide (((m : Nat) : Int) ≤ 4) = false := by simp; omega
          have hz := hid (HJ3.out h2 h4)
          obtain ⟨n2, hn2⟩ : ∃ n, al.length = n := ⟨_, rfl⟩
          have HN2 := hid hn2
          rw [hn2] at HL2
          clear h2 h4 hn2 HCL
          go_wp2_with (first
            | (refine ldrow arrHouses _ rfl rfl _ rfl _ _ H0.out ?_)
            | (go_at_call 32; refine (HAs.out _).mono ?_; rintro e w3 ⟨v, rfl, hR, hb⟩; obtain ⟨p2, c2, rfl, hcl⟩ := readT_form hR; rw [HN2.out]; have HCL2 := hid hcl; have hsz := hB.size; have hB := hB.trans (hb.mono (by omega)); clear hR hcl hb))
          go_loop [10, 11, 13] (fun x y i => ∃ j : Nat, j ≤ n2 ∧ i = .int .i64 j ∧ x = .bool (anyK isGood al j) ∧ y = .bool (anyK (fun k => !isGood k) al j)) (fun _ _ i => n2 - (intOf i).toNat)
          case atStart => exact ⟨0, by omega, rfl, rfl, rfl⟩
          case round =>
            obtain ⟨j, hj, rfl, rfl, rfl⟩ := hrel
            by_cases hjt : j < n2
            · have hjt' : ((j : Nat) : Int) < n2 := by omega
              have hj0 : (0 : Int) ≤ j := by omega
              have hjl : j < al.length := by rw [HN2.out]; exact hjt
              obtain ⟨G2, rfl, hG2, c0, c1, c2⟩ := HCL2.out j hjl
              have HS1 := hid (anyK_step isGood al j hjl)
              have HS2 := hid (anyK_step (fun k => !isGood k) al j hjl)
              generalize al[j].1 = k at *
              generalize anyK isGood al j = x at *
              generalize anyK (fun k => !isGood k) al j = y at *
              clear c1 c2
              by_cases h2 : k = 2
              · have e2 : (((k : Nat) : Int) == 2) = true := by simp; omega
                have hgd : isGood k = true := by rw [h2]; rfl
                rw [hgd] at HS1 HS2
                clear h2 hgd
                go_wp2_with fail
                go_round
                case rel => exact ⟨j + 1, by omega, by go_num, by rw [HS1.out]; simp, by rw [HS2.out]; simp⟩
                case measure => simp [intOf]; omega
              · have e2 : (((k : Nat) : Int) == 2) = false := by simp; omega
                by_cases h4 : k = 4
                · have e4 : (((k : Nat) : Int) == 4) = true := by simp; omega
                  have hgd : isGood k = true := by rw [h4]; rfl
                  rw [hgd] at HS1 HS2
                  clear h2 h4 hgd
                  go_wp2_with fail
                  go_round
                  case rel => exact ⟨j + 1, by omega, by go_num, by rw [HS1.out]; simp, by rw [HS2.out]; simp⟩
                  case measure => simp [intOf]; omega
                · have e4 : (((k : Nat) : Int) == 4) = false := by simp; omega
                  have hgd : isGood k = false := by unfold isGood; simp; omega
                  rw [hgd] at HS1 HS2
                  clear h2 h4 hgd
                  go_wp2_with fail
                  go_round
                  case rel => exact ⟨j + 1, by omega, by go_num, by rw [HS1.out]; simp, by rw [HS2.out]; simp⟩
                  case measure => simp [intOf]; omega
            · have hge : ¬ ((j : Nat) : Int) < n2 := by omega
              obtain rfl : j = n2 := by omega
              have q1 := anyK_all isGood al j HN2.out
              have q2 := anyK_all (fun k => !isGood k) al j HN2.out
              rw [q1, q2]
              clear q1 q2
              generalize (al.any fun t => isGood t.1) = x at *
              generalize (al.any fun t => !isGood t.1) = y at *
              cases x <;> cases y
              all_goals
                go_wp2_with fail
                go_ret
                exact ⟨by rw [hz.out]; rfl, hg ▸ hB⟩
end Go.Proofs.YtcdbkgpgjjeoiaaDoor
