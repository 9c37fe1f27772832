/- Walks of the reference of chapter 5: Is. -/
import Derived.Test.YtcdbkgpgjjeoiaaDoorHR3
import Derived.Test.YtcdbkgpgjjeoiaaDoorQD
import Derived.Test.YtcdbkgpgjjeoiaaDoorHP
import Derived.Deep.DeepCutAuto
namespace Go.Proofs.YtcdbkgpgjjeoiaaDoor
open Go Go.RowKit
set_option maxRecDepth 100000
set_option linter.unusedSimpArgs false
set_option linter.unusedVariables false

theorem is_start (S : Nat → Int) (K x y : Int) (w : World) : ((w.alloc (.cells (irow 12 S) 24)).alloc (.cells #[.int .i64 K, .int .i64 x, .int .i64 y] 53)).heap[w.heap.size]? = some (.cells (irow 12 S) 24 (0, 0)) ∧
    ((w.alloc (.cells (irow 12 S) 24)).alloc (.cells #[.int .i64 K, .int .i64 x, .int .i64 y] 53)).heap[w.heap.size + 1]? = some (.cells #[.int .i64 K, .int .i64 x, .int .i64 y] 53 (0, 0)) ∧
    Below w.heap.size w ((w.alloc (.cells (irow 12 S) 24)).alloc (.cells #[.int .i64 K, .int .i64 x, .int .i64 y] 53)) :=
  ⟨heap_alloc2_old w _ _, heap_alloc2_new w _ _, ((Below.refl _ _).alloc (Nat.le_refl _) _).alloc (by simp) _⟩
theorem beq_yes {x y : Nat} {s t : Int} (hs : s = ((x : Nat) : Int) + 1) (ht : t = ((y : Nat) : Int) + 1) (h : x = y) : (s == t) = true ∧ (s != t) = false := by subst h; rw [hs, ht]; simp
theorem beq_no {x y : Nat} {s t : Int} (hs : s = ((x : Nat) : Int) + 1) (ht : t = ((y : Nat) : Int) + 1) (h : ¬ x = y) : (s == t) = false ∧ (s != t) = true := by rw [hs, ht]; constructor <;> simp <;> omega
theorem beqf_yes {x y : Nat} (h : x = y) : (((x : Nat) : Int) == ((y : Nat) : Int)) = true ∧ (((x : Nat) : Int) != ((y : Nat) : Int)) = false := by subst h; simp
theorem beqf_no {x y : Nat} (h : ¬ x = y) : (((x : Nat) : Int) == ((y : Nat) : Int)) = false ∧ (((x : Nat) : Int) != ((y : Nat) : Int)) = true := by constructor <;> simp <;> omega
set_option maxHeartbeats 4000000 in
theorem is_1 (h : Nat → Nat) (hh : ∀ i, i < 12 → h i < 16) (a b x y : Nat) (ha : a < 12) (hb : b < 12) (hx : x < 12) (hy : y < 12) (ai bi xi yi : Int) (ha' : ai = ((a : Nat) : Int) + 1) (hb' : bi = ((b : Nat) : Int) + 1) (hx' : xi = ((x : Nat) : Int) + 1) (hy' : yi = ((y : Nat) : Int) + 1) (w : World) :
    Calls Tryd.prog 61 #[.agg (irow 12 (cst h)), .int .i64 ai, .int .i64 bi, .agg #[.int .i64 1, .int .i64 xi, .int .i64 yi]] w fun e w' => e = .returned (.bool (isT h a b (1, x, y))) ∧ Below w.heap.size w w' := by
  have HAa := hid (fun W => rAt (cst h) a ha ai ha' W)
  have HAb := hid (fun W => rAt (cst h) b hb bi hb' W)
  have HAx := hid (fun W => rAt (cst h) x hx xi hx' W)
  have HAy := hid (fun W => rAt (cst h) y hy yi hy' W)
  obtain ⟨z, hz⟩ : ∃ z, isT h a b (1, x, y) = z := ⟨_, rfl⟩
  rw [hz]
  unfold isT at hz
  rw [cst_app] at HAa HAb HAx HAy
  generalize h a = fa at *
  generalize h b = fb at *
  generalize h x = fx at *
  generalize h y = fy at *
  have HZ := hid hz
  have HXA := hid (And.intro ha' (And.intro hb' (And.intro hx' hy')))
  obtain ⟨h0, h1, hB⟩ := is_start (cst h) 1 xi yi w
  have H0 := hid h0
  have c0 := cell_of_row _ _ 0 _ _ (0, 0) h1
  have c1 := cell_of_row _ _ 1 _ _ (0, 0) h1
  have c2 := cell_of_row _ _ 2 _ _ (0, 0) h1
  have hlt0 := heap_lt h0
  have hlt1 := heap_lt h1
  clear hh hz ha hb hx hy ha' hb' hx' hy' h0 h1
  obtain ⟨g, hg⟩ : ∃ g, w.heap.size = g := ⟨_, rfl⟩
  go_enter Tryd.func61, Tryd.ntmps61
  go_wp2_with fail
  generalize (w.alloc (.cells (irow 12 (cst h)) 24)).alloc (.cells #[.int .i64 1, .int .i64 xi, .int .i64 yi] 53) = w1 at *
  rw [hg] at H0 c0 c1 c2 hlt0 hlt1 hB
  go_quiet (fail)
  go_wp2_with fail
  have hB := below_drewN hB nq
  have H0 := hid (show (w1.drewN nq).heap[g]? = some (.cells (irow 12 (cst h)) 24 (0, 0)) from H0.out)
  have c0 : (w1.drewN nq).cell? ⟨g + 1, 0, none⟩ = some (.int .i64 1) := c0
  have hlt0 : g < (w1.drewN nq).heap.size := hlt0
  have hlt1 : g + 1 < (w1.drewN nq).heap.size := hlt1
  generalize w1.drewN nq = w2 at *
  have hS4 : Below w2.heap.size w2 w2.drew := below_drew (Below.refl _ _)
  refine regD (fun W => Below w2.heap.size w2 W) (fun _ => true) (by kernel_rfl) ?_
  refine takeE (i := 0) (.agg (irow 12 (cst h))) (d := some 20) rfl (by kernel_rfl) (by kernel_rfl) (by kernel_rfl) (by kernel_rfl) (fun _ _ _ h => h) rfl (fun W hSw => by exact exec_ldrow arrHouses rfl rfl (heap_below hSw H0.out hlt0)) (hS4) rfl ?_
  simp only [Act.put, List.setIfInBounds_toArray, List.set_cons_zero, List.set_cons_succ]
  refine takeE (i := 1) (.int .i64 ai) (d := some 21) rfl (by kernel_rfl) (by kernel_rfl) (by kernel_rfl) (by kernel_rfl) (fun _ _ _ h => h) rfl (fun W hSw => by rfl) (hS4) rfl ?_
  simp only [Act.put, List.setIfInBounds_toArray, List.set_cons_zero, List.set_cons_succ]
  refine takeE (i := 3) (.agg (irow 12 (cst h))) (d := some 23) rfl (by kernel_rfl) (by kernel_rfl) (by kernel_rfl) (by kernel_rfl) (fun _ _ _ h => h) rfl (fun W hSw => by exact exec_ldrow arrHouses rfl rfl (heap_below hSw H0.out hlt0)) (hS4) rfl ?_
  simp only [Act.put, List.setIfInBounds_toArray, List.set_cons_zero, List.set_cons_succ]
  refine takeE (i := 4) (.int .i64 bi) (d := some 24) rfl (by kernel_rfl) (by kernel_rfl) (by kernel_rfl) (by kernel_rfl) (fun _ _ _ h => h) rfl (fun W hSw => by rfl) (hS4) rfl ?_
  simp only [Act.put, List.setIfInBounds_toArray, List.set_cons_zero, List.set_cons_succ]
  refine takeE (i := 6) (.agg (irow 12 (cst h))) (d := some 26) rfl (by kernel_rfl) (by kernel_rfl) (by kernel_rfl) (by kernel_rfl) (fun _ _ _ h => h) rfl (fun W hSw => by exact exec_ldrow arrHouses rfl rfl (heap_below hSw H0.out hlt0)) (hS4) rfl ?_
  simp only [Act.put, List.setIfInBounds_toArray, List.set_cons_zero, List.set_cons_succ]
  refine takeE (i := 7) (.int .i64 xi) (d := some 27) rfl (by kernel_rfl) (by kernel_rfl) (by kernel_rfl) (by kernel_rfl) (fun _ _ _ h => h) rfl (fun W hSw => by rfl) (hS4) rfl ?_
  simp only [Act.put, List.setIfInBounds_toArray, List.set_cons_zero, List.set_cons_succ]
  refine takeE (i := 9) (.agg (irow 12 (cst h))) (d := some 29) rfl (by kernel_rfl) (by kernel_rfl) (by kernel_rfl) (by kernel_rfl) (fun _ _ _ h => h) rfl (fun W hSw => by exact exec_ldrow arrHouses rfl rfl (heap_below hSw H0.out hlt0)) (hS4) rfl ?_
  simp only [Act.put, List.setIfInBounds_toArray, List.set_cons_zero, List.set_cons_succ]
  refine takeE (i := 10) (.int .i64 yi) (d := some 30) rfl (by kernel_rfl) (by kernel_rfl) (by kernel_rfl) (by kernel_rfl) (fun _ _ _ h => h) rfl (fun W hSw => by rfl) (hS4) rfl ?_
  simp only [Act.put, List.setIfInBounds_toArray, List.set_cons_zero, List.set_cons_succ]
  refine stepD 2 (by kernel_rfl) rfl rfl (fun K hK => ?_)
  go_simp
  go_at_call 16
  refine (HAa.out _).mono ?_
  rintro e v0 ⟨rfl, hb⟩
  have hS5 : Below w2.heap.size w2 v0 := hS4.trans (hb.mono hS4.size)
  go_simp
  refine hK _ _ (fun _ => hS5) ?_
  clear hK K
  refine stepD 5 (by kernel_rfl) rfl rfl (fun K hK => ?_)
  go_simp
  go_at_call 16
  refine (HAb.out _).mono ?_
  rintro e v1 ⟨rfl, hb⟩
  have hS6 : Below w2.heap.size w2 v1 := hS5.trans (hb.mono hS5.size)
  go_simp
  refine hK _ _ (fun _ => hS6) ?_
  clear hK K
  refine stepD 8 (by kernel_rfl) rfl rfl (fun K hK => ?_)
  go_simp
  go_at_call 16
  refine (HAx.out _).mono ?_
  rintro e v2 ⟨rfl, hb⟩
  have hS7 : Below w2.heap.size w2 v2 := hS6.trans (hb.mono hS6.size)
  go_simp
  refine hK _ _ (fun _ => hS7) ?_
  clear hK K
  refine stepD 11 (by kernel_rfl) rfl rfl (fun K hK => ?_)
  go_simp
  go_at_call 16
  refine (HAy.out _).mono ?_
  rintro e v3 ⟨rfl, hb⟩
  have hS8 : Below w2.heap.size w2 v3 := hS7.trans (hb.mono hS7.size)
  go_simp
  refine hK _ _ (fun _ => hS8) ?_
  clear hK K
  refine takeE (i := 12) (.int .i64 ((fa : Nat) : Int)) (d := some 11) rfl (by kernel_rfl) (by kernel_rfl) (by kernel_rfl) (by kernel_rfl) (fun _ _ _ h => h) rfl (fun W hSw => by rfl) (hS8) rfl ?_
  simp only [Act.put, List.setIfInBounds_toArray, List.set_cons_zero, List.set_cons_succ]
  refine takeE (i := 13) (.int .i64 ((fb : Nat) : Int)) (d := some 12) rfl (by kernel_rfl) (by kernel_rfl) (by kernel_rfl) (by kernel_rfl) (fun _ _ _ h => h) rfl (fun W hSw => by rfl) (hS8) rfl ?_
  simp only [Act.put, List.setIfInBounds_toArray, List.set_cons_zero, List.set_cons_succ]
  refine takeE (i := 14) (.int .i64 ((fx : Nat) : Int)) (d := some 13) rfl (by kernel_rfl) (by kernel_rfl) (by kernel_rfl) (by kernel_rfl) (fun _ _ _ h => h) rfl (fun W hSw => by rfl) (hS8) rfl ?_
  simp only [Act.put, List.setIfInBounds_toArray, List.set_cons_zero, List.set_cons_succ]
  refine takeE (i := 15) (.int .i64 ((fy : Nat) : Int)) (d := some 14) rfl (by kernel_rfl) (by kernel_rfl) (by kernel_rfl) (by kernel_rfl) (fun _ _ _ h => h) rfl (fun W hSw => by rfl) (hS8) rfl ?_
  simp only [Act.put, List.setIfInBounds_toArray, List.set_cons_zero, List.set_cons_succ]
  refine doneD (by kernel_rfl) ?_ _
  refine OnlyNorm.normal ?_
  have hB9 := hB.trans (hS8.mono (by have := hB.size; omega))
  have c9 : v3.cell? ⟨g + 1, 0, none⟩ = some (.int .i64 1) := ((bcell hS8).1 (g + 1) 0 hlt1).trans c0
  clear hS4 hS5 hS6 hS7 hS8 c0 c1 c2 hB
  obtain ⟨ha', hb', hx', hy'⟩ := HXA.out
  obtain ⟨bs, hbs⟩ : ∃ bs, (!decide (x = a) && !decide (x = b) && !decide (y = a) && !decide (y = b)) = bs := ⟨_, rfl⟩
  have HBS := hid hbs
  clear hbs
  go_upto_region 3 with fail
  go_cut [15] (fun s15 wx => s15 = .bool bs ∧ wx = v3)
  case first =>
    by_cases hxa : x = a
    · have pxa := beq_yes hx' ha' hxa
      have hq : bs = false := by rw [← HBS.out]; simp [hxa]
      obtain ⟨exa, mxa⟩ := pxa
      subst hq
      clear ha' hb' hx' hy' hxa
      go_wp2_with fail
      go_meet
      exact ⟨rfl, rfl⟩
    · have pxa := beq_no hx' ha' hxa
      by_cases hxb : x = b
      · have pxb := beq_yes hx' hb' hxb
        have hq : bs = false := by rw [← HBS.out]; simp [hxa, hxb]
        obtain ⟨exa, mxa⟩ := pxa
        obtain ⟨exb, mxb⟩ := pxb
        subst hq
        clear ha' hb' hx' hy' hxa hxb
        go_wp2_with fail
        go_meet
        exact ⟨rfl, rfl⟩
      · have pxb := beq_no hx' hb' hxb
        by_cases hya : y = a
        · have pya := beq_yes hy' ha' hya
          have hq : bs = false := by rw [← HBS.out]; simp [hxa, hxb, hya]
          obtain ⟨exa, mxa⟩ := pxa
          obtain ⟨exb, mxb⟩ := pxb
          obtain ⟨eya, mya⟩ := pya
          subst hq
          clear ha' hb' hx' hy' hxa hxb hya
          go_wp2_with fail
          go_meet
          exact ⟨rfl, rfl⟩
        · have pya := beq_no hy' ha' hya
          by_cases hyb : y = b
          · have pyb := beq_yes hy' hb' hyb
            have hq : bs = false := by rw [← HBS.out]; simp [hxa, hxb, hya, hyb]
            obtain ⟨exa, mxa⟩ := pxa
            obtain ⟨exb, mxb⟩ := pxb
            obtain ⟨eya, mya⟩ := pya
            obtain ⟨eyb, myb⟩ := pyb
            subst hq
            clear ha' hb' hx' hy' hxa hxb hya hyb
            go_wp2_with fail
            go_meet
            exact ⟨rfl, rfl⟩
          · have pyb := beq_no hy' hb' hyb
            have hq : bs = true := by rw [← HBS.out]; simp [hxa, hxb, hya, hyb]
            obtain ⟨exa, mxa⟩ := pxa
            obtain ⟨exb, mxb⟩ := pxb
            obtain ⟨eya, mya⟩ := pya
            obtain ⟨eyb, myb⟩ := pyb
            subst hq
            clear ha' hb' hx' hy' hxa hxb hya hyb
            go_wp2_with fail
            go_meet
            exact ⟨rfl, rfl⟩
  case rest =>
    obtain ⟨rfl, rfl⟩ := hcut
    by_cases hxa : x = a
    · have pxa := beq_yes hx' ha' hxa
      by_cases hyb : y = b
      · have pyb := beq_yes hy' hb' hyb
        by_cases hab : fa = fb
        · have pab := beqf_yes hab
          have hq : z = true := by rw [← HZ.out]; simp [hxa, hyb, hab]
          obtain ⟨exa, mxa⟩ := pxa
          obtain ⟨eyb, myb⟩ := pyb
          obtain ⟨eab, mab⟩ := pab
          subst hq
          clear ha' hb' hx' hy' hxa hyb hab
          go_wp2_with fail
          go_ret
          exact ⟨rfl, hg ▸ hB9⟩
        · have pab := beqf_no hab
          have hq : z = false := by rw [← HZ.out]; simp [hxa, hyb, hab]
          obtain ⟨exa, mxa⟩ := pxa
          obtain ⟨eyb, myb⟩ := pyb
          obtain ⟨eab, mab⟩ := pab
          subst hq
          clear ha' hb' hx' hy' hxa hyb hab
          go_wp2_with fail
          go_ret
          exact ⟨rfl, hg ▸ hB9⟩
      · have pyb := beq_no hy' hb' hyb
        have hq : z = false := by rw [← HZ.out]; simp [hxa, hyb]
        obtain ⟨exa, mxa⟩ := pxa
        obtain ⟨eyb, myb⟩ := pyb
        subst hq
        clear ha' hb' hx' hy' hxa hyb
        go_wp2_with fail
        go_ret
        exact ⟨rfl, hg ▸ hB9⟩
    · have pxa := beq_no hx' ha' hxa
      have hq : z = false := by rw [← HZ.out]; simp [hxa]
      obtain ⟨exa, mxa⟩ := pxa
      subst hq
      clear ha' hb' hx' hy' hxa
      go_wp2_with fail
      go_ret
      exact ⟨rfl, hg ▸ hB9⟩
set_option maxHeartbeats 4000000 in
theorem is_2 (h : Nat → Nat) (hh : ∀ i, i < 12 → h i < 16) (a b x y : Nat) (ha : a < 12) (hb : b < 12) (hx : x < 12) (hy : y < 12) (ai bi xi yi : Int) (ha' : ai = ((a : Nat) : Int) + 1) (hb' : bi = ((b : Nat) : Int) + 1) (hx' : xi = ((x : Nat) : Int) + 1) (hy' : yi = ((y : Nat) : Int) + 1) (w : World) :
    Calls Tryd.prog 61 #[.agg (irow 12 (cst h)), .int .i64 ai, .int .i64 bi, .agg #[.int .i64 2, .int .i64 xi, .int .i64 yi]] w fun e w' => e = .returned (.bool (isT h a b (2, x, y))) ∧ Below w.heap.size w w' := by
  have HAa := hid (fun W => rAt (cst h) a ha ai ha' W)
  have HAb := hid (fun W => rAt (cst h) b hb bi hb' W)
  have HAx := hid (fun W => rAt (cst h) x hx xi hx' W)
  have HAy := hid (fun W => rAt (cst h) y hy yi hy' W)
  have Hn1 := hid (fun W => rNext x b hx hb xi bi hx' hb' W)
  have Hn2 := hid (fun W => rNext y a hy ha yi ai hy' ha' W)
  obtain ⟨z, hz⟩ : ∃ z, isT h a b (2, x, y) = z := ⟨_, rfl⟩
  rw [hz]
  unfold isT at hz
  rw [cst_app] at HAa HAb HAx HAy
  generalize h a = fa at *
  generalize h b = fb at *
  generalize h x = fx at *
  generalize h y = fy at *
  generalize nxt x b = n1 at *
  generalize nxt y a = n2 at *
  have HZ := hid hz
  have HXA := hid (And.intro ha' (And.intro hb' (And.intro hx' hy')))
  obtain ⟨h0, h1, hB⟩ := is_start (cst h) 2 xi yi w
  have H0 := hid h0
  have c0 := cell_of_row _ _ 0 _ _ (0, 0) h1
  have c1 := cell_of_row _ _ 1 _ _ (0, 0) h1
  have c2 := cell_of_row _ _ 2 _ _ (0, 0) h1
  have hlt0 := heap_lt h0
  have hlt1 := heap_lt h1
  clear hh hz ha hb hx hy ha' hb' hx' hy' h0 h1
  obtain ⟨g, hg⟩ : ∃ g, w.heap.size = g := ⟨_, rfl⟩
  go_enter Tryd.func61, Tryd.ntmps61
  go_wp2_with fail
  generalize (w.alloc (.cells (irow 12 (cst h)) 24)).alloc (.cells #[.int .i64 2, .int .i64 xi, .int .i64 yi] 53) = w1 at *
  rw [hg] at H0 c0 c1 c2 hlt0 hlt1 hB
  go_quiet (fail)
  go_wp2_with fail
  have hB := below_drewN hB nq
  have H0 := hid (show (w1.drewN nq).heap[g]? = some (.cells (irow 12 (cst h)) 24 (0, 0)) from H0.out)
  have c0 : (w1.drewN nq).cell? ⟨g + 1, 0, none⟩ = some (.int .i64 2) := c0
  have hlt0 : g < (w1.drewN nq).heap.size := hlt0
  have hlt1 : g + 1 < (w1.drewN nq).heap.size := hlt1
  generalize w1.drewN nq = w2 at *
  have hS4 : Below w2.heap.size w2 w2.drew := below_drew (Below.refl _ _)
  refine regD (fun W => Below w2.heap.size w2 W) (fun _ => true) (by kernel_rfl) ?_
  refine takeE (i := 0) (.agg (irow 12 (cst h))) (d := some 20) rfl (by kernel_rfl) (by kernel_rfl) (by kernel_rfl) (by kernel_rfl) (fun _ _ _ h => h) rfl (fun W hSw => by exact exec_ldrow arrHouses rfl rfl (heap_below hSw H0.out hlt0)) (hS4) rfl ?_
  simp only [Act.put, List.setIfInBounds_toArray, List.set_cons_zero, List.set_cons_succ]
  refine takeE (i := 1) (.int .i64 ai) (d := some 21) rfl (by kernel_rfl) (by kernel_rfl) (by kernel_rfl) (by kernel_rfl) (fun _ _ _ h => h) rfl (fun W hSw => by rfl) (hS4) rfl ?_
  simp only [Act.put, List.setIfInBounds_toArray, List.set_cons_zero, List.set_cons_succ]
  refine takeE (i := 3) (.agg (irow 12 (cst h))) (d := some 23) rfl (by kernel_rfl) (by kernel_rfl) (by kernel_rfl) (by kernel_rfl) (fun _ _ _ h => h) rfl (fun W hSw => by exact exec_ldrow arrHouses rfl rfl (heap_below hSw H0.out hlt0)) (hS4) rfl ?_
  simp only [Act.put, List.setIfInBounds_toArray, List.set_cons_zero, List.set_cons_succ]
  refine takeE (i := 4) (.int .i64 bi) (d := some 24) rfl (by kernel_rfl) (by kernel_rfl) (by kernel_rfl) (by kernel_rfl) (fun _ _ _ h => h) rfl (fun W hSw => by rfl) (hS4) rfl ?_
  simp only [Act.put, List.setIfInBounds_toArray, List.set_cons_zero, List.set_cons_succ]
  refine takeE (i := 6) (.agg (irow 12 (cst h))) (d := some 26) rfl (by kernel_rfl) (by kernel_rfl) (by kernel_rfl) (by kernel_rfl) (fun _ _ _ h => h) rfl (fun W hSw => by exact exec_ldrow arrHouses rfl rfl (heap_below hSw H0.out hlt0)) (hS4) rfl ?_
  simp only [Act.put, List.setIfInBounds_toArray, List.set_cons_zero, List.set_cons_succ]
  refine takeE (i := 7) (.int .i64 xi) (d := some 27) rfl (by kernel_rfl) (by kernel_rfl) (by kernel_rfl) (by kernel_rfl) (fun _ _ _ h => h) rfl (fun W hSw => by rfl) (hS4) rfl ?_
  simp only [Act.put, List.setIfInBounds_toArray, List.set_cons_zero, List.set_cons_succ]
  refine takeE (i := 9) (.agg (irow 12 (cst h))) (d := some 29) rfl (by kernel_rfl) (by kernel_rfl) (by kernel_rfl) (by kernel_rfl) (fun _ _ _ h => h) rfl (fun W hSw => by exact exec_ldrow arrHouses rfl rfl (heap_below hSw H0.out hlt0)) (hS4) rfl ?_
  simp only [Act.put, List.setIfInBounds_toArray, List.set_cons_zero, List.set_cons_succ]
  refine takeE (i := 10) (.int .i64 yi) (d := some 30) rfl (by kernel_rfl) (by kernel_rfl) (by kernel_rfl) (by kernel_rfl) (fun _ _ _ h => h) rfl (fun W hSw => by rfl) (hS4) rfl ?_
  simp only [Act.put, List.setIfInBounds_toArray, List.set_cons_zero, List.set_cons_succ]
  refine stepD 2 (by kernel_rfl) rfl rfl (fun K hK => ?_)
  go_simp
  go_at_call 16
  refine (HAa.out _).mono ?_
  rintro e v0 ⟨rfl, hb⟩
  have hS5 : Below w2.heap.size w2 v0 := hS4.trans (hb.mono hS4.size)
  go_simp
  refine hK _ _ (fun _ => hS5) ?_
  clear hK K
  refine stepD 5 (by kernel_rfl) rfl rfl (fun K hK => ?_)
  go_simp
  go_at_call 16
  refine (HAb.out _).mono ?_
  rintro e v1 ⟨rfl, hb⟩
  have hS6 : Below w2.heap.size w2 v1 := hS5.trans (hb.mono hS5.size)
  go_simp
  refine hK _ _ (fun _ => hS6) ?_
  clear hK K
  refine stepD 8 (by kernel_rfl) rfl rfl (fun K hK => ?_)
  go_simp
  go_at_call 16
  refine (HAx.out _).mono ?_
  rintro e v2 ⟨rfl, hb⟩
  have hS7 : Below w2.heap.size w2 v2 := hS6.trans (hb.mono hS6.size)
  go_simp
  refine hK _ _ (fun _ => hS7) ?_
  clear hK K
  refine stepD 11 (by kernel_rfl) rfl rfl (fun K hK => ?_)
  go_simp
  go_at_call 16
  refine (HAy.out _).mono ?_
  rintro e v3 ⟨rfl, hb⟩
  have hS8 : Below w2.heap.size w2 v3 := hS7.trans (hb.mono hS7.size)
  go_simp
  refine hK _ _ (fun _ => hS8) ?_
  clear hK K
  refine takeE (i := 12) (.int .i64 ((fa : Nat) : Int)) (d := some 11) rfl (by kernel_rfl) (by kernel_rfl) (by kernel_rfl) (by kernel_rfl) (fun _ _ _ h => h) rfl (fun W hSw => by rfl) (hS8) rfl ?_
  simp only [Act.put, List.setIfInBounds_toArray, List.set_cons_zero, List.set_cons_succ]
  refine takeE (i := 13) (.int .i64 ((fb : Nat) : Int)) (d := some 12) rfl (by kernel_rfl) (by kernel_rfl) (by kernel_rfl) (by kernel_rfl) (fun _ _ _ h => h) rfl (fun W hSw => by rfl) (hS8) rfl ?_
  simp only [Act.put, List.setIfInBounds_toArray, List.set_cons_zero, List.set_cons_succ]
  refine takeE (i := 14) (.int .i64 ((fx : Nat) : Int)) (d := some 13) rfl (by kernel_rfl) (by kernel_rfl) (by kernel_rfl) (by kernel_rfl) (fun _ _ _ h => h) rfl (fun W hSw => by rfl) (hS8) rfl ?_
  simp only [Act.put, List.setIfInBounds_toArray, List.set_cons_zero, List.set_cons_succ]
  refine takeE (i := 15) (.int .i64 ((fy : Nat) : Int)) (d := some 14) rfl (by kernel_rfl) (by kernel_rfl) (by kernel_rfl) (by kernel_rfl) (fun _ _ _ h => h) rfl (fun W hSw => by rfl) (hS8) rfl ?_
  simp only [Act.put, List.setIfInBounds_toArray, List.set_cons_zero, List.set_cons_succ]
  refine doneD (by kernel_rfl) ?_ _
  refine OnlyNorm.normal ?_
  have hB9 := hB.trans (hS8.mono (by have := hB.size; omega))
  have c9 : v3.cell? ⟨g + 1, 0, none⟩ = some (.int .i64 2) := ((bcell hS8).1 (g + 1) 0 hlt1).trans c0
  clear hS4 hS5 hS6 hS7 hS8 c0 c1 c2 hB
  obtain ⟨ha', hb', hx', hy'⟩ := HXA.out
  obtain ⟨bs, hbs⟩ : ∃ bs, (!decide (x = a) && !decide (x = b) && !decide (y = a) && !decide (y = b)) = bs := ⟨_, rfl⟩
  have HBS := hid hbs
  clear hbs
  go_upto_region 3 with fail
  go_cut [15] (fun s15 wx => s15 = .bool bs ∧ wx = v3)
  case first =>
    by_cases hxa : x = a
    · have pxa := beq_yes hx' ha' hxa
      have hq : bs = false := by rw [← HBS.out]; simp [hxa]
      obtain ⟨exa, mxa⟩ := pxa
      subst hq
      clear ha' hb' hx' hy' hxa
      go_wp2_with fail
      go_meet
      exact ⟨rfl, rfl⟩
    · have pxa := beq_no hx' ha' hxa
      by_cases hxb : x = b
      · have pxb := beq_yes hx' hb' hxb
        have hq : bs = false := by rw [← HBS.out]; simp [hxa, hxb]
        obtain ⟨exa, mxa⟩ := pxa
        obtain ⟨exb, mxb⟩ := pxb
        subst hq
        clear ha' hb' hx' hy' hxa hxb
        go_wp2_with fail
        go_meet
        exact ⟨rfl, rfl⟩
      · have pxb := beq_no hx' hb' hxb
        by_cases hya : y = a
        · have pya := beq_yes hy' ha' hya
          have hq : bs = false := by rw [← HBS.out]; simp [hxa, hxb, hya]
          obtain ⟨exa, mxa⟩ := pxa
          obtain ⟨exb, mxb⟩ := pxb
          obtain ⟨eya, mya⟩ := pya
          subst hq
          clear ha' hb' hx' hy' hxa hxb hya
          go_wp2_with fail
          go_meet
          exact ⟨rfl, rfl⟩
        · have pya := beq_no hy' ha' hya
          by_cases hyb : y = b
          · have pyb := beq_yes hy' hb' hyb
            have hq : bs = false := by rw [← HBS.out]; simp [hxa, hxb, hya, hyb]
            obtain ⟨exa, mxa⟩ := pxa
            obtain ⟨exb, mxb⟩ := pxb
            obtain ⟨eya, mya⟩ := pya
            obtain ⟨eyb, myb⟩ := pyb
            subst hq
            clear ha' hb' hx' hy' hxa hxb hya hyb
            go_wp2_with fail
            go_meet
            exact ⟨rfl, rfl⟩
          · have pyb := beq_no hy' hb' hyb
            have hq : bs = true := by rw [← HBS.out]; simp [hxa, hxb, hya, hyb]
            obtain ⟨exa, mxa⟩ := pxa
            obtain ⟨exb, mxb⟩ := pxb
            obtain ⟨eya, mya⟩ := pya
            obtain ⟨eyb, myb⟩ := pyb
            subst hq
            clear ha' hb' hx' hy' hxa hxb hya hyb
            go_wp2_with fail
            go_meet
            exact ⟨rfl, rfl⟩
  case rest =>
    obtain ⟨rfl, rfl⟩ := hcut
    by_cases hyb : y = b
    · have pyb := beq_yes hy' hb' hyb
      by_cases hxa : x = a
      · have pxa := beq_yes hx' ha' hxa
        have hq : z = false := by rw [← HZ.out]; simp [hyb, hxa]
        obtain ⟨eyb, myb⟩ := pyb
        obtain ⟨exa, mxa⟩ := pxa
        subst hq
        clear ha' hb' hx' hy' hyb hxa
        go_wp2_with fail
        go_ret
        exact ⟨rfl, hg ▸ hB9⟩
      · have pxa := beq_no hx' ha' hxa
        cases hn1 : n1
        · rw [hn1] at Hn1
          have hq : z = false := by rw [← HZ.out]; simp [hyb, hxa, hn1]
          obtain ⟨eyb, myb⟩ := pyb
          obtain ⟨exa, mxa⟩ := pxa
          subst hq
          clear ha' hb' hx' hy' hyb hxa
          go_wp2_with (first | (go_at_call_of 84 (Value.int .i64 xi); refine (Hn1.out _).mono ?_; rintro e w' ⟨rfl, rfl⟩))
          go_ret
          exact ⟨rfl, hg ▸ hB9⟩
        · rw [hn1] at Hn1
          by_cases hfxa : fx = fa
          · have pfxa := beqf_yes hfxa
            have hq : z = true := by rw [← HZ.out]; simp [hyb, hxa, hfxa, hn1]
            obtain ⟨eyb, myb⟩ := pyb
            obtain ⟨exa, mxa⟩ := pxa
            obtain ⟨efxa, mfxa⟩ := pfxa
            subst hq
            clear ha' hb' hx' hy' hyb hxa hfxa
            go_wp2_with (first | (go_at_call_of 84 (Value.int .i64 xi); refine (Hn1.out _).mono ?_; rintro e w' ⟨rfl, rfl⟩))
            go_ret
            exact ⟨rfl, hg ▸ hB9⟩
          · have pfxa := beqf_no hfxa
            have hq : z = false := by rw [← HZ.out]; simp [hyb, hxa, hfxa, hn1]
            obtain ⟨eyb, myb⟩ := pyb
            obtain ⟨exa, mxa⟩ := pxa
            obtain ⟨efxa, mfxa⟩ := pfxa
            subst hq
            clear ha' hb' hx' hy' hyb hxa hfxa
            go_wp2_with (first | (go_at_call_of 84 (Value.int .i64 xi); refine (Hn1.out _).mono ?_; rintro e w' ⟨rfl, rfl⟩))
            go_ret
            exact ⟨rfl, hg ▸ hB9⟩
    · have pyb := beq_no hy' hb' hyb
      by_cases hxa : x = a
      · have pxa := beq_yes hx' ha' hxa
        cases hn2 : n2
        · rw [hn2] at Hn2
          have hq : z = false := by rw [← HZ.out]; simp [hyb, hxa, hn2]
          obtain ⟨eyb, myb⟩ := pyb
          obtain ⟨exa, mxa⟩ := pxa
          subst hq
          clear ha' hb' hx' hy' hyb hxa
          go_wp2_with (first | (go_at_call_of 84 (Value.int .i64 yi); refine (Hn2.out _).mono ?_; rintro e w' ⟨rfl, rfl⟩))
          go_ret
          exact ⟨rfl, hg ▸ hB9⟩
        · rw [hn2] at Hn2
          by_cases hfyb : fy = fb
          · have pfyb := beqf_yes hfyb
            have hq : z = true := by rw [← HZ.out]; simp [hyb, hxa, hfyb, hn2]
            obtain ⟨eyb, myb⟩ := pyb
            obtain ⟨exa, mxa⟩ := pxa
            obtain ⟨efyb, mfyb⟩ := pfyb
            subst hq
            clear ha' hb' hx' hy' hyb hxa hfyb
            go_wp2_with (first | (go_at_call_of 84 (Value.int .i64 yi); refine (Hn2.out _).mono ?_; rintro e w' ⟨rfl, rfl⟩))
            go_ret
            exact ⟨rfl, hg ▸ hB9⟩
          · have pfyb := beqf_no hfyb
            have hq : z = false := by rw [← HZ.out]; simp [hyb, hxa, hfyb, hn2]
            obtain ⟨eyb, myb⟩ := pyb
            obtain ⟨exa, mxa⟩ := pxa
            obtain ⟨efyb, mfyb⟩ := pfyb
            subst hq
            clear ha' hb' hx' hy' hyb hxa hfyb
            go_wp2_with (first | (go_at_call_of 84 (Value.int .i64 yi); refine (Hn2.out _).mono ?_; rintro e w' ⟨rfl, rfl⟩))
            go_ret
            exact ⟨rfl, hg ▸ hB9⟩
      · have pxa := beq_no hx' ha' hxa
        have hq : z = false := by rw [← HZ.out]; simp [hyb, hxa]
        obtain ⟨eyb, myb⟩ := pyb
        obtain ⟨exa, mxa⟩ := pxa
        subst hq
        clear ha' hb' hx' hy' hyb hxa
        go_wp2_with fail
        go_ret
        exact ⟨rfl, hg ▸ hB9⟩
set_option maxHeartbeats 4000000 in
theorem is_3 (h : Nat → Nat) (hh : ∀ i, i < 12 → h i < 16) (a b x y : Nat) (ha : a < 12) (hb : b < 12) (hx : x < 12) (hy : y < 12) (ai bi xi yi : Int) (ha' : ai = ((a : Nat) : Int) + 1) (hb' : bi = ((b : Nat) : Int) + 1) (hx' : xi = ((x : Nat) : Int) + 1) (hy' : yi = ((y : Nat) : Int) + 1) (w : World) :
    Calls Tryd.prog 61 #[.agg (irow 12 (cst h)), .int .i64 ai, .int .i64 bi, .agg #[.int .i64 3, .int .i64 xi, .int .i64 yi]] w fun e w' => e = .returned (.bool (isT h a b (3, x, y))) ∧ Below w.heap.size w w' := by
  have HAa := hid (fun W => rAt (cst h) a ha ai ha' W)
  have HAb := hid (fun W => rAt (cst h) b hb bi hb' W)
  have HAx := hid (fun W => rAt (cst h) x hx xi hx' W)
  have HAy := hid (fun W => rAt (cst h) y hy yi hy' W)
  have Hn1 := hid (fun W => rNext x y hx hy xi yi hx' hy' W)
  obtain ⟨z, hz⟩ : ∃ z, isT h a b (3, x, y) = z := ⟨_, rfl⟩
  rw [hz]
  unfold isT at hz
  rw [cst_app] at HAa HAb HAx HAy
  generalize h a = fa at *
  generalize h b = fb at *
  generalize h x = fx at *
  generalize h y = fy at *
  generalize nxt x y = n1 at *
  have HZ := hid hz
  have HXA := hid (And.intro ha' (And.intro hb' (And.intro hx' hy')))
  obtain ⟨h0, h1, hB⟩ := is_start (cst h) 3 xi yi w
  have H0 := hid h0
  have c0 := cell_of_row _ _ 0 _ _ (0, 0) h1
  have c1 := cell_of_row _ _ 1 _ _ (0, 0) h1
  have c2 := cell_of_row _ _ 2 _ _ (0, 0) h1
  have hlt0 := heap_lt h0
  have hlt1 := heap_lt h1
  clear hh hz ha hb hx hy ha' hb' hx' hy' h0 h1
  obtain ⟨g, hg⟩ : ∃ g, w.heap.size = g := ⟨_, rfl⟩
  go_enter Tryd.func61, Tryd.ntmps61
  go_wp2_with fail
  generalize (w.alloc (.cells (irow 12 (cst h)) 24)).alloc (.cells #[.int .i64 3, .int .i64 xi, .int .i64 yi] 53) = w1 at *
  rw [hg] at H0 c0 c1 c2 hlt0 hlt1 hB
  go_quiet (fail)
  go_wp2_with fail
  have hB := below_drewN hB nq
  have H0 := hid (show (w1.drewN nq).heap[g]? = some (.cells (irow 12 (cst h)) 24 (0, 0)) from H0.out)
  have c0 : (w1.drewN nq).cell? ⟨g + 1, 0, none⟩ = some (.int .i64 3) := c0
  have hlt0 : g < (w1.drewN nq).heap.size := hlt0
  have hlt1 : g + 1 < (w1.drewN nq).heap.size := hlt1
  generalize w1.drewN nq = w2 at *
  have hS4 : Below w2.heap.size w2 w2.drew := below_drew (Below.refl _ _)
  refine regD (fun W => Below w2.heap.size w2 W) (fun _ => true) (by kernel_rfl) ?_
  refine takeE (i := 0) (.agg (irow 12 (cst h))) (d := some 20) rfl (by kernel_rfl) (by kernel_rfl) (by kernel_rfl) (by kernel_rfl) (fun _ _ _ h => h) rfl (fun W hSw => by exact exec_ldrow arrHouses rfl rfl (heap_below hSw H0.out hlt0)) (hS4) rfl ?_
  simp only [Act.put, List.setIfInBounds_toArray, List.set_cons_zero, List.set_cons_succ]
  refine takeE (i := 1) (.int .i64 ai) (d := some 21) rfl (by kernel_rfl) (by kernel_rfl) (by kernel_rfl) (by kernel_rfl) (fun _ _ _ h => h) rfl (fun W hSw => by rfl) (hS4) rfl ?_
  simp only [Act.put, List.setIfInBounds_toArray, List.set_cons_zero, List.set_cons_succ]
  refine takeE (i := 3) (.agg (irow 12 (cst h))) (d := some 23) rfl (by kernel_rfl) (by kernel_rfl) (by kernel_rfl) (by kernel_rfl) (fun _ _ _ h => h) rfl (fun W hSw => by exact exec_ldrow arrHouses rfl rfl (heap_below hSw H0.out hlt0)) (hS4) rfl ?_
  simp only [Act.put, List.setIfInBounds_toArray, List.set_cons_zero, List.set_cons_succ]
  refine takeE (i := 4) (.int .i64 bi) (d := some 24) rfl (by kernel_rfl) (by kernel_rfl) (by kernel_rfl) (by kernel_rfl) (fun _ _ _ h => h) rfl (fun W hSw => by rfl) (hS4) rfl ?_
  simp only [Act.put, List.setIfInBounds_toArray, List.set_cons_zero, List.set_cons_succ]
  refine takeE (i := 6) (.agg (irow 12 (cst h))) (d := some 26) rfl (by kernel_rfl) (by kernel_rfl) (by kernel_rfl) (by kernel_rfl) (fun _ _ _ h => h) rfl (fun W hSw => by exact exec_ldrow arrHouses rfl rfl (heap_below hSw H0.out hlt0)) (hS4) rfl ?_
  simp only [Act.put, List.setIfInBounds_toArray, List.set_cons_zero, List.set_cons_succ]
  refine takeE (i := 7) (.int .i64 xi) (d := some 27) rfl (by kernel_rfl) (by kernel_rfl) (by kernel_rfl) (by kernel_rfl) (fun _ _ _ h => h) rfl (fun W hSw => by rfl) (hS4) rfl ?_
  simp only [Act.put, List.setIfInBounds_toArray, List.set_cons_zero, List.set_cons_succ]
  refine takeE (i := 9) (.agg (irow 12 (cst h))) (d := some 29) rfl (by kernel_rfl) (by kernel_rfl) (by kernel_rfl) (by kernel_rfl) (fun _ _ _ h => h) rfl (fun W hSw => by exact exec_ldrow arrHouses rfl rfl (heap_below hSw H0.out hlt0)) (hS4) rfl ?_
  simp only [Act.put, List.setIfInBounds_toArray, List.set_cons_zero, List.set_cons_succ]
  refine takeE (i := 10) (.int .i64 yi) (d := some 30) rfl (by kernel_rfl) (by kernel_rfl) (by kernel_rfl) (by kernel_rfl) (fun _ _ _ h => h) rfl (fun W hSw => by rfl) (hS4) rfl ?_
  simp only [Act.put, List.setIfInBounds_toArray, List.set_cons_zero, List.set_cons_succ]
  refine stepD 2 (by kernel_rfl) rfl rfl (fun K hK => ?_)
  go_simp
  go_at_call 16
  refine (HAa.out _).mono ?_
  rintro e v0 ⟨rfl, hb⟩
  have hS5 : Below w2.heap.size w2 v0 := hS4.trans (hb.mono hS4.size)
  go_simp
  refine hK _ _ (fun _ => hS5) ?_
  clear hK K
  refine stepD 5 (by kernel_rfl) rfl rfl (fun K hK => ?_)
  go_simp
  go_at_call 16
  refine (HAb.out _).mono ?_
  rintro e v1 ⟨rfl, hb⟩
  have hS6 : Below w2.heap.size w2 v1 := hS5.trans (hb.mono hS5.size)
  go_simp
  refine hK _ _ (fun _ => hS6) ?_
  clear hK K
  refine stepD 8 (by kernel_rfl) rfl rfl (fun K hK => ?_)
  go_simp
  go_at_call 16
  refine (HAx.out _).mono ?_
  rintro e v2 ⟨rfl, hb⟩
  have hS7 : Below w2.heap.size w2 v2 := hS6.trans (hb.mono hS6.size)
  go_simp
  refine hK _ _ (fun _ => hS7) ?_
  clear hK K
  refine stepD 11 (by kernel_rfl) rfl rfl (fun K hK => ?_)
  go_simp
  go_at_call 16
  refine (HAy.out _).mono ?_
  rintro e v3 ⟨rfl, hb⟩
  have hS8 : Below w2.heap.size w2 v3 := hS7.trans (hb.mono hS7.size)
  go_simp
  refine hK _ _ (fun _ => hS8) ?_
  clear hK K
  refine takeE (i := 12) (.int .i64 ((fa : Nat) : Int)) (d := some 11) rfl (by kernel_rfl) (by kernel_rfl) (by kernel_rfl) (by kernel_rfl) (fun _ _ _ h => h) rfl (fun W hSw => by rfl) (hS8) rfl ?_
  simp only [Act.put, List.setIfInBounds_toArray, List.set_cons_zero, List.set_cons_succ]
  refine takeE (i := 13) (.int .i64 ((fb : Nat) : Int)) (d := some 12) rfl (by kernel_rfl) (by kernel_rfl) (by kernel_rfl) (by kernel_rfl) (fun _ _ _ h => h) rfl (fun W hSw => by rfl) (hS8) rfl ?_
  simp only [Act.put, List.setIfInBounds_toArray, List.set_cons_zero, List.set_cons_succ]
  refine takeE (i := 14) (.int .i64 ((fx : Nat) : Int)) (d := some 13) rfl (by kernel_rfl) (by kernel_rfl) (by kernel_rfl) (by kernel_rfl) (fun _ _ _ h => h) rfl (fun W hSw => by rfl) (hS8) rfl ?_
  simp only [Act.put, List.setIfInBounds_toArray, List.set_cons_zero, List.set_cons_succ]
  refine takeE (i := 15) (.int .i64 ((fy : Nat) : Int)) (d := some 14) rfl (by kernel_rfl) (by kernel_rfl) (by kernel_rfl) (by kernel_rfl) (fun _ _ _ h => h) rfl (fun W hSw => by rfl) (hS8) rfl ?_
  simp only [Act.put, List.setIfInBounds_toArray, List.set_cons_zero, List.set_cons_succ]
  refine doneD (by kernel_rfl) ?_ _
  refine OnlyNorm.normal ?_
  have hB9 := hB.trans (hS8.mono (by have := hB.size; omega))
  have c9 : v3.cell? ⟨g + 1, 0, none⟩ = some (.int .i64 3) := ((bcell hS8).1 (g + 1) 0 hlt1).trans c0
  clear hS4 hS5 hS6 hS7 hS8 c0 c1 c2 hB
  obtain ⟨ha', hb', hx', hy'⟩ := HXA.out
  obtain ⟨bs, hbs⟩ : ∃ bs, (!decide (x = a) && !decide (x = b) && !decide (y = a) && !decide (y = b)) = bs := ⟨_, rfl⟩
  have HBS := hid hbs
  clear hbs
  go_upto_region 3 with fail
  go_cut [15] (fun s15 wx => s15 = .bool bs ∧ wx = v3)
  case first =>
    by_cases hxa : x = a
    · have pxa := beq_yes hx' ha' hxa
      have hq : bs = false := by rw [← HBS.out]; simp [hxa]
      obtain ⟨exa, mxa⟩ := pxa
      subst hq
      clear ha' hb' hx' hy' hxa
      go_wp2_with fail
      go_meet
      exact ⟨rfl, rfl⟩
    · have pxa := beq_no hx' ha' hxa
      by_cases hxb : x = b
      · have pxb := beq_yes hx' hb' hxb
        have hq : bs = false := by rw [← HBS.out]; simp [hxa, hxb]
        obtain ⟨exa, mxa⟩ := pxa
        obtain ⟨exb, mxb⟩ := pxb
        subst hq
        clear ha' hb' hx' hy' hxa hxb
        go_wp2_with fail
        go_meet
        exact ⟨rfl, rfl⟩
      · have pxb := beq_no hx' hb' hxb
        by_cases hya : y = a
        · have pya := beq_yes hy' ha' hya
          have hq : bs = false := by rw [← HBS.out]; simp [hxa, hxb, hya]
          obtain ⟨exa, mxa⟩ := pxa
          obtain ⟨exb, mxb⟩ := pxb
          obtain ⟨eya, mya⟩ := pya
          subst hq
          clear ha' hb' hx' hy' hxa hxb hya
          go_wp2_with fail
          go_meet
          exact ⟨rfl, rfl⟩
        · have pya := beq_no hy' ha' hya
          by_cases hyb : y = b
          · have pyb := beq_yes hy' hb' hyb
            have hq : bs = false := by rw [← HBS.out]; simp [hxa, hxb, hya, hyb]
            obtain ⟨exa, mxa⟩ := pxa
            obtain ⟨exb, mxb⟩ := pxb
            obtain ⟨eya, mya⟩ := pya
            obtain ⟨eyb, myb⟩ := pyb
            subst hq
            clear ha' hb' hx' hy' hxa hxb hya hyb
            go_wp2_with fail
            go_meet
            exact ⟨rfl, rfl⟩
          · have pyb := beq_no hy' hb' hyb
            have hq : bs = true := by rw [← HBS.out]; simp [hxa, hxb, hya, hyb]
            obtain ⟨exa, mxa⟩ := pxa
            obtain ⟨exb, mxb⟩ := pxb
            obtain ⟨eya, mya⟩ := pya
            obtain ⟨eyb, myb⟩ := pyb
            subst hq
            clear ha' hb' hx' hy' hxa hxb hya hyb
            go_wp2_with fail
            go_meet
            exact ⟨rfl, rfl⟩
  case rest =>
    obtain ⟨rfl, rfl⟩ := hcut
    cases bs
    · have hq : z = false := by
        rw [← HZ.out]
        have := HBS.out
        simp at this ⊢
        intros; simp_all
      subst hq
      clear ha' hb' hx' hy'
      go_wp2_with fail
      go_ret
      exact ⟨rfl, hg ▸ hB9⟩
    · have hbe := HBS.out
      simp only [Bool.and_eq_true, Bool.not_eq_true', decide_eq_false_iff_not] at hbe
      obtain ⟨⟨⟨hxa0, hxb0⟩, hya0⟩, hyb0⟩ := hbe
      cases hn1 : n1
      · rw [hn1] at Hn1
        have hq : z = false := by rw [← HZ.out]; simp [hxa0, hxb0, hya0, hyb0, hn1]
        subst hq
        clear hxa0 hxb0 hya0 hyb0 ha' hb' hx' hy'
        go_wp2_with (first | (go_at_call_of 84 (Value.int .i64 xi); refine (Hn1.out _).mono ?_; rintro e w' ⟨rfl, rfl⟩))
        go_ret
        exact ⟨rfl, hg ▸ hB9⟩
      · rw [hn1] at Hn1
        by_cases hfxa : fx = fa
        · have pfxa := beqf_yes hfxa
          by_cases hfyb : fy = fb
          · have pfyb := beqf_yes hfyb
            have hq : z = true := by rw [← HZ.out]; simp [hxa0, hxb0, hya0, hyb0, hfxa, hfyb, hn1]
            obtain ⟨efxa, mfxa⟩ := pfxa
            obtain ⟨efyb, mfyb⟩ := pfyb
            subst hq
            clear hxa0 hxb0 hya0 hyb0 ha' hb' hx' hy' hfxa hfyb
            go_wp2_with (first | (go_at_call_of 84 (Value.int .i64 xi); refine (Hn1.out _).mono ?_; rintro e w' ⟨rfl, rfl⟩))
            go_ret
            exact ⟨rfl, hg ▸ hB9⟩
          · have pfyb := beqf_no hfyb
            have hq : z = false := by rw [← HZ.out]; simp [hxa0, hxb0, hya0, hyb0, hfxa, hfyb, hn1]
            obtain ⟨efxa, mfxa⟩ := pfxa
            obtain ⟨efyb, mfyb⟩ := pfyb
            subst hq
            clear hxa0 hxb0 hya0 hyb0 ha' hb' hx' hy' hfxa hfyb
            go_wp2_with (first | (go_at_call_of 84 (Value.int .i64 xi); refine (Hn1.out _).mono ?_; rintro e w' ⟨rfl, rfl⟩))
            go_ret
            exact ⟨rfl, hg ▸ hB9⟩
        · have pfxa := beqf_no hfxa
          have hq : z = false := by rw [← HZ.out]; simp [hxa0, hxb0, hya0, hyb0, hfxa, hn1]
          obtain ⟨efxa, mfxa⟩ := pfxa
          subst hq
          clear hxa0 hxb0 hya0 hyb0 ha' hb' hx' hy' hfxa
          go_wp2_with (first | (go_at_call_of 84 (Value.int .i64 xi); refine (Hn1.out _).mono ?_; rintro e w' ⟨rfl, rfl⟩))
          go_ret
          exact ⟨rfl, hg ▸ hB9⟩
set_option maxHeartbeats 4000000 in
theorem is_4 (h : Nat → Nat) (hh : ∀ i, i < 12 → h i < 16) (a b x y : Nat) (ha : a < 12) (hb : b < 12) (hx : x < 12) (hy : y < 12) (ai bi xi yi : Int) (ha' : ai = ((a : Nat) : Int) + 1) (hb' : bi = ((b : Nat) : Int) + 1) (hx' : xi = ((x : Nat) : Int) + 1) (hy' : yi = ((y : Nat) : Int) + 1) (w : World) :
    Calls Tryd.prog 61 #[.agg (irow 12 (cst h)), .int .i64 ai, .int .i64 bi, .agg #[.int .i64 4, .int .i64 xi, .int .i64 yi]] w fun e w' => e = .returned (.bool (isT h a b (4, x, y))) ∧ Below w.heap.size w w' := by
  have HAa := hid (fun W => rAt (cst h) a ha ai ha' W)
  have HAb := hid (fun W => rAt (cst h) b hb bi hb' W)
  have HAx := hid (fun W => rAt (cst h) x hx xi hx' W)
  have HAy := hid (fun W => rAt (cst h) y hy yi hy' W)
  have Hn1 := hid (fun W => rNext x a hx ha xi ai hx' ha' W)
  have Hn2 := hid (fun W => rNext y b hy hb yi bi hy' hb' W)
  obtain ⟨z, hz⟩ : ∃ z, isT h a b (4, x, y) = z := ⟨_, rfl⟩
  rw [hz]
  unfold isT at hz
  rw [cst_app] at HAa HAb HAx HAy
  generalize h a = fa at *
  generalize h b = fb at *
  generalize h x = fx at *
  generalize h y = fy at *
  generalize nxt x a = n1 at *
  generalize nxt y b = n2 at *
  have HZ := hid hz
  have HXA := hid (And.intro ha' (And.intro hb' (And.intro hx' hy')))
  obtain ⟨h0, h1, hB⟩ := is_start (cst h) 4 xi yi w
  have H0 := hid h0
  have c0 := cell_of_row _ _ 0 _ _ (0, 0) h1
  have c1 := cell_of_row _ _ 1 _ _ (0, 0) h1
  have c2 := cell_of_row _ _ 2 _ _ (0, 0) h1
  have hlt0 := heap_lt h0
  have hlt1 := heap_lt h1
  clear hh hz ha hb hx hy ha' hb' hx' hy' h0 h1
  obtain ⟨g, hg⟩ : ∃ g, w.heap.size = g := ⟨_, rfl⟩
  go_enter Tryd.func61, Tryd.ntmps61
  go_wp2_with fail
  generalize (w.alloc (.cells (irow 12 (cst h)) 24)).alloc (.cells #[.int .i64 4, .int .i64 xi, .int .i64 yi] 53) = w1 at *
  rw [hg] at H0 c0 c1 c2 hlt0 hlt1 hB
  go_quiet (fail)
  go_wp2_with fail
  have hB := below_drewN hB nq
  have H0 := hid (show (w1.drewN nq).heap[g]? = some (.cells (irow 12 (cst h)) 24 (0, 0)) from H0.out)
  have c0 : (w1.drewN nq).cell? ⟨g + 1, 0, none⟩ = some (.int .i64 4) := c0
  have hlt0 : g < (w1.drewN nq).heap.size := hlt0
  have hlt1 : g + 1 < (w1.drewN nq).heap.size := hlt1
  generalize w1.drewN nq = w2 at *
  have hS4 : Below w2.heap.size w2 w2.drew := below_drew (Below.refl _ _)
  refine regD (fun W => Below w2.heap.size w2 W) (fun _ => true) (by kernel_rfl) ?_
  refine takeE (i := 0) (.agg (irow 12 (cst h))) (d := some 20) rfl (by kernel_rfl) (by kernel_rfl) (by kernel_rfl) (by kernel_rfl) (fun _ _ _ h => h) rfl (fun W hSw => by exact exec_ldrow arrHouses rfl rfl (heap_below hSw H0.out hlt0)) (hS4) rfl ?_
  simp only [Act.put, List.setIfInBounds_toArray, List.set_cons_zero, List.set_cons_succ]
  refine takeE (i := 1) (.int .i64 ai) (d := some 21) rfl (by kernel_rfl) (by kernel_rfl) (by kernel_rfl) (by kernel_rfl) (fun _ _ _ h => h) rfl (fun W hSw => by rfl) (hS4) rfl ?_
  simp only [Act.put, List.setIfInBounds_toArray, List.set_cons_zero, List.set_cons_succ]
  refine takeE (i := 3) (.agg (irow 12 (cst h))) (d := some 23) rfl (by kernel_rfl) (by kernel_rfl) (by kernel_rfl) (by kernel_rfl) (fun _ _ _ h => h) rfl (fun W hSw => by exact exec_ldrow arrHouses rfl rfl (heap_below hSw H0.out hlt0)) (hS4) rfl ?_
  simp only [Act.put, List.setIfInBounds_toArray, List.set_cons_zero, List.set_cons_succ]
  refine takeE (i := 4) (.int .i64 bi) (d := some 24) rfl (by kernel_rfl) (by kernel_rfl) (by kernel_rfl) (by kernel_rfl) (fun _ _ _ h => h) rfl (fun W hSw => by rfl) (hS4) rfl ?_
  simp only [Act.put, List.setIfInBounds_toArray, List.set_cons_zero, List.set_cons_succ]
  refine takeE (i := 6) (.agg (irow 12 (cst h))) (d := some 26) rfl (by kernel_rfl) (by kernel_rfl) (by kernel_rfl) (by kernel_rfl) (fun _ _ _ h => h) rfl (fun W hSw => by exact exec_ldrow arrHouses rfl rfl (heap_below hSw H0.out hlt0)) (hS4) rfl ?_
  simp only [Act.put, List.setIfInBounds_toArray, List.set_cons_zero, List.set_cons_succ]
  refine takeE (i := 7) (.int .i64 xi) (d := some 27) rfl (by kernel_rfl) (by kernel_rfl) (by kernel_rfl) (by kernel_rfl) (fun _ _ _ h => h) rfl (fun W hSw => by rfl) (hS4) rfl ?_
  simp only [Act.put, List.setIfInBounds_toArray, List.set_cons_zero, List.set_cons_succ]
  refine takeE (i := 9) (.agg (irow 12 (cst h))) (d := some 29) rfl (by kernel_rfl) (by kernel_rfl) (by kernel_rfl) (by kernel_rfl) (fun _ _ _ h => h) rfl (fun W hSw => by exact exec_ldrow arrHouses rfl rfl (heap_below hSw H0.out hlt0)) (hS4) rfl ?_
  simp only [Act.put, List.setIfInBounds_toArray, List.set_cons_zero, List.set_cons_succ]
  refine takeE (i := 10) (.int .i64 yi) (d := some 30) rfl (by kernel_rfl) (by kernel_rfl) (by kernel_rfl) (by kernel_rfl) (fun _ _ _ h => h) rfl (fun W hSw => by rfl) (hS4) rfl ?_
  simp only [Act.put, List.setIfInBounds_toArray, List.set_cons_zero, List.set_cons_succ]
  refine stepD 2 (by kernel_rfl) rfl rfl (fun K hK => ?_)
  go_simp
  go_at_call 16
  refine (HAa.out _).mono ?_
  rintro e v0 ⟨rfl, hb⟩
  have hS5 : Below w2.heap.size w2 v0 := hS4.trans (hb.mono hS4.size)
  go_simp
  refine hK _ _ (fun _ => hS5) ?_
  clear hK K
  refine stepD 5 (by kernel_rfl) rfl rfl (fun K hK => ?_)
  go_simp
  go_at_call 16
  refine (HAb.out _).mono ?_
  rintro e v1 ⟨rfl, hb⟩
  have hS6 : Below w2.heap.size w2 v1 := hS5.trans (hb.mono hS5.size)
  go_simp
  refine hK _ _ (fun _ => hS6) ?_
  clear hK K
  refine stepD 8 (by kernel_rfl) rfl rfl (fun K hK => ?_)
  go_simp
  go_at_call 16
  refine (HAx.out _).mono ?_
  rintro e v2 ⟨rfl, hb⟩
  have hS7 : Below w2.heap.size w2 v2 := hS6.trans (hb.mono hS6.size)
  go_simp
  refine hK _ _ (fun _ => hS7) ?_
  clear hK K
  refine stepD 11 (by kernel_rfl) rfl rfl (fun K hK => ?_)
  go_simp
  go_at_call 16
  refine (HAy.out _).mono ?_
  rintro e v3 ⟨rfl, hb⟩
  have hS8 : Below w2.heap.size w2 v3 := hS7.trans (hb.mono hS7.size)
  go_simp
  refine hK _ _ (fun _ => hS8) ?_
  clear hK K
  refine takeE (i := 12) (.int .i64 ((fa : Nat) : Int)) (d := some 11) rfl (by kernel_rfl) (by kernel_rfl) (by kernel_rfl) (by kernel_rfl) (fun _ _ _ h => h) rfl (fun W hSw => by rfl) (hS8) rfl ?_
  simp only [Act.put, List.setIfInBounds_toArray, List.set_cons_zero, List.set_cons_succ]
  refine takeE (i := 13) (.int .i64 ((fb : Nat) : Int)) (d := some 12) rfl (by kernel_rfl) (by kernel_rfl) (by kernel_rfl) (by kernel_rfl) (fun _ _ _ h => h) rfl (fun W hSw => by rfl) (hS8) rfl ?_
  simp only [Act.put, List.setIfInBounds_toArray, List.set_cons_zero, List.set_cons_succ]
  refine takeE (i := 14) (.int .i64 ((fx : Nat) : Int)) (d := some 13) rfl (by kernel_rfl) (by kernel_rfl) (by kernel_rfl) (by kernel_rfl) (fun _ _ _ h => h) rfl (fun W hSw => by rfl) (hS8) rfl ?_
  simp only [Act.put, List.setIfInBounds_toArray, List.set_cons_zero, List.set_cons_succ]
  refine takeE (i := 15) (.int .i64 ((fy : Nat) : Int)) (d := some 14) rfl (by kernel_rfl) (by kernel_rfl) (by kernel_rfl) (by kernel_rfl) (fun _ _ _ h => h) rfl (fun W hSw => by rfl) (hS8) rfl ?_
  simp only [Act.put, List.setIfInBounds_toArray, List.set_cons_zero, List.set_cons_succ]
  refine doneD (by kernel_rfl) ?_ _
  refine OnlyNorm.normal ?_
  have hB9 := hB.trans (hS8.mono (by have := hB.size; omega))
  have c9 : v3.cell? ⟨g + 1, 0, none⟩ = some (.int .i64 4) := ((bcell hS8).1 (g + 1) 0 hlt1).trans c0
  clear hS4 hS5 hS6 hS7 hS8 c0 c1 c2 hB
  obtain ⟨ha', hb', hx', hy'⟩ := HXA.out
  obtain ⟨bs, hbs⟩ : ∃ bs, (!decide (x = a) && !decide (x = b) && !decide (y = a) && !decide (y = b)) = bs := ⟨_, rfl⟩
  have HBS := hid hbs
  clear hbs
  go_upto_region 3 with fail
  go_cut [15] (fun s15 wx => s15 = .bool bs ∧ wx = v3)
  case first =>
    by_cases hxa : x = a
    · have pxa := beq_yes hx' ha' hxa
      have hq : bs = false := by rw [← HBS.out]; simp [hxa]
      obtain ⟨exa, mxa⟩ := pxa
      subst hq
      clear ha' hb' hx' hy' hxa
      go_wp2_with fail
      go_meet
      exact ⟨rfl, rfl⟩
    · have pxa := beq_no hx' ha' hxa
      by_cases hxb : x = b
      · have pxb := beq_yes hx' hb' hxb
        have hq : bs = false := by rw [← HBS.out]; simp [hxa, hxb]
        obtain ⟨exa, mxa⟩ := pxa
        obtain ⟨exb, mxb⟩ := pxb
        subst hq
        clear ha' hb' hx' hy' hxa hxb
        go_wp2_with fail
        go_meet
        exact ⟨rfl, rfl⟩
      · have pxb := beq_no hx' hb' hxb
        by_cases hya : y = a
        · have pya := beq_yes hy' ha' hya
          have hq : bs = false := by rw [← HBS.out]; simp [hxa, hxb, hya]
          obtain ⟨exa, mxa⟩ := pxa
          obtain ⟨exb, mxb⟩ := pxb
          obtain ⟨eya, mya⟩ := pya
          subst hq
          clear ha' hb' hx' hy' hxa hxb hya
          go_wp2_with fail
          go_meet
          exact ⟨rfl, rfl⟩
        · have pya := beq_no hy' ha' hya
          by_cases hyb : y = b
          · have pyb := beq_yes hy' hb' hyb
            have hq : bs = false := by rw [← HBS.out]; simp [hxa, hxb, hya, hyb]
            obtain ⟨exa, mxa⟩ := pxa
            obtain ⟨exb, mxb⟩ := pxb
            obtain ⟨eya, mya⟩ := pya
            obtain ⟨eyb, myb⟩ := pyb
            subst hq
            clear ha' hb' hx' hy' hxa hxb hya hyb
            go_wp2_with fail
            go_meet
            exact ⟨rfl, rfl⟩
          · have pyb := beq_no hy' hb' hyb
            have hq : bs = true := by rw [← HBS.out]; simp [hxa, hxb, hya, hyb]
            obtain ⟨exa, mxa⟩ := pxa
            obtain ⟨exb, mxb⟩ := pxb
            obtain ⟨eya, mya⟩ := pya
            obtain ⟨eyb, myb⟩ := pyb
            subst hq
            clear ha' hb' hx' hy' hxa hxb hya hyb
            go_wp2_with fail
            go_meet
            exact ⟨rfl, rfl⟩
  case rest =>
    obtain ⟨rfl, rfl⟩ := hcut
    cases bs
    · have hq : z = false := by
        rw [← HZ.out]
        have := HBS.out
        simp at this ⊢
        intros; simp_all
      subst hq
      clear ha' hb' hx' hy'
      go_wp2_with fail
      go_ret
      exact ⟨rfl, hg ▸ hB9⟩
    · have hbe := HBS.out
      simp only [Bool.and_eq_true, Bool.not_eq_true', decide_eq_false_iff_not] at hbe
      obtain ⟨⟨⟨hxa0, hxb0⟩, hya0⟩, hyb0⟩ := hbe
      by_cases hxy : x = y
      · have pxy := beq_yes hx' hy' hxy
        have hq : z = false := by rw [← HZ.out]; simp [hxa0, hxb0, hya0, hyb0, hxy]
        obtain ⟨exy, mxy⟩ := pxy
        subst hq
        clear hxa0 hxb0 hya0 hyb0 ha' hb' hx' hy' hxy
        go_wp2_with fail
        go_ret
        exact ⟨rfl, hg ▸ hB9⟩
      · have pxy := beq_no hx' hy' hxy
        cases hn1 : n1
        · rw [hn1] at Hn1
          have hq : z = false := by rw [← HZ.out]; simp [hxa0, hxb0, hya0, hyb0, hxy, hn1]
          obtain ⟨exy, mxy⟩ := pxy
          subst hq
          clear hxa0 hxb0 hya0 hyb0 ha' hb' hx' hy' hxy
          go_wp2_with (first | (go_at_call_of 84 (Value.int .i64 xi); refine (Hn1.out _).mono ?_; rintro e w' ⟨rfl, rfl⟩))
          go_ret
          exact ⟨rfl, hg ▸ hB9⟩
        · rw [hn1] at Hn1
          cases hn2 : n2
          · rw [hn2] at Hn2
            have hq : z = false := by rw [← HZ.out]; simp [hxa0, hxb0, hya0, hyb0, hxy, hn1, hn2]
            obtain ⟨exy, mxy⟩ := pxy
            subst hq
            clear hxa0 hxb0 hya0 hyb0 ha' hb' hx' hy' hxy
            go_wp2_with (first | (go_at_call_of 84 (Value.int .i64 xi); refine (Hn1.out _).mono ?_; rintro e w' ⟨rfl, rfl⟩) | (go_at_call_of 84 (Value.int .i64 yi); refine (Hn2.out _).mono ?_; rintro e w' ⟨rfl, rfl⟩))
            go_ret
            exact ⟨rfl, hg ▸ hB9⟩
          · rw [hn2] at Hn2
            by_cases hfxy : fx = fy
            · have pfxy := beqf_yes hfxy
              by_cases hfxa : fx = fa
              · have pfxa := beqf_yes hfxa
                have hq : z = false := by rw [← HZ.out]; rw [hfxy] at hfxa; simp [hxa0, hxb0, hya0, hyb0, hxy, hfxy, hfxa, hn1, hn2]
                obtain ⟨exy, mxy⟩ := pxy
                obtain ⟨efxy, mfxy⟩ := pfxy
                obtain ⟨efxa, mfxa⟩ := pfxa
                subst hq
                clear hxa0 hxb0 hya0 hyb0 ha' hb' hx' hy' hxy hfxy hfxa
                go_wp2_with (first | (go_at_call_of 84 (Value.int .i64 xi); refine (Hn1.out _).mono ?_; rintro e w' ⟨rfl, rfl⟩) | (go_at_call_of 84 (Value.int .i64 yi); refine (Hn2.out _).mono ?_; rintro e w' ⟨rfl, rfl⟩))
                go_ret
                exact ⟨rfl, hg ▸ hB9⟩
              · have pfxa := beqf_no hfxa
                by_cases hfxb : fx = fb
                · have pfxb := beqf_yes hfxb
                  have hq : z = false := by rw [← HZ.out]; rw [hfxy] at hfxa; rw [hfxy] at hfxb; simp [hxa0, hxb0, hya0, hyb0, hxy, hfxy, hfxa, hfxb, hn1, hn2]
                  obtain ⟨exy, mxy⟩ := pxy
                  obtain ⟨efxy, mfxy⟩ := pfxy
                  obtain ⟨efxa, mfxa⟩ := pfxa
                  obtain ⟨efxb, mfxb⟩ := pfxb
                  subst hq
                  clear hxa0 hxb0 hya0 hyb0 ha' hb' hx' hy' hxy hfxy hfxa hfxb
                  go_wp2_with (first | (go_at_call_of 84 (Value.int .i64 xi); refine (Hn1.out _).mono ?_; rintro e w' ⟨rfl, rfl⟩) | (go_at_call_of 84 (Value.int .i64 yi); refine (Hn2.out _).mono ?_; rintro e w' ⟨rfl, rfl⟩))
                  go_ret
                  exact ⟨rfl, hg ▸ hB9⟩
                · have pfxb := beqf_no hfxb
                  have hq : z = true := by rw [← HZ.out]; rw [hfxy] at hfxa; rw [hfxy] at hfxb; simp [hxa0, hxb0, hya0, hyb0, hxy, hfxy, hfxa, hfxb, hn1, hn2]
                  obtain ⟨exy, mxy⟩ := pxy
                  obtain ⟨efxy, mfxy⟩ := pfxy
                  obtain ⟨efxa, mfxa⟩ := pfxa
                  obtain ⟨efxb, mfxb⟩ := pfxb
                  subst hq
                  clear hxa0 hxb0 hya0 hyb0 ha' hb' hx' hy' hxy hfxy hfxa hfxb
                  go_wp2_with (first | (go_at_call_of 84 (Value.int .i64 xi); refine (Hn1.out _).mono ?_; rintro e w' ⟨rfl, rfl⟩) | (go_at_call_of 84 (Value.int .i64 yi); refine (Hn2.out _).mono ?_; rintro e w' ⟨rfl, rfl⟩))
                  go_ret
                  exact ⟨rfl, hg ▸ hB9⟩
            · have pfxy := beqf_no hfxy
              have hq : z = false := by rw [← HZ.out]; simp [hxa0, hxb0, hya0, hyb0, hxy, hfxy, hn1, hn2]
              obtain ⟨exy, mxy⟩ := pxy
              obtain ⟨efxy, mfxy⟩ := pfxy
              subst hq
              clear hxa0 hxb0 hya0 hyb0 ha' hb' hx' hy' hxy hfxy
              go_wp2_with (first | (go_at_call_of 84 (Value.int .i64 xi); refine (Hn1.out _).mono ?_; rintro e w' ⟨rfl, rfl⟩) | (go_at_call_of 84 (Value.int .i64 yi); refine (Hn2.out _).mono ?_; rintro e w' ⟨rfl, rfl⟩))
              go_ret
              exact ⟨rfl, hg ▸ hB9⟩
end Go.Proofs.YtcdbkgpgjjeoiaaDoor
