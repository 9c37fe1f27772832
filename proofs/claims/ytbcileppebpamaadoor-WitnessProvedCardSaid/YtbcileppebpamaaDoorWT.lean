/- Walks of the reference's Combine and Split; of the law's same. -/
import Derived.Test.YtbcileppebpamaaDoorRQ
import Derived.Test.YtbcileppebpamaaDoorGV
set_option linter.unusedSimpArgs false
set_option linter.unusedVariables false
namespace Go.Proofs.YtbcileppebpamaaDoor
open Go Go.RowKit Go.Shelf
set_option maxRecDepth 100000

theorem Ints.own {W : World} {B : Nat} {v : Value} {xs : List Int} (h : Ints W B v xs) : ∀ k, v.ownBlock = some k → B ≤ k := fun k hk => by
  rcases h.2 with ⟨h3, _⟩ | ⟨g, cap, cur, h3, h4, h5, _⟩
  · rw [h3] at hk; cases hk
  · rw [h3] at hk
    have : g = k := by simpa [Value.ownBlock] using hk
    subst this
    exact h4
theorem wpO_app_ints {o : Oper} {a : Act} {w : World} {K : Act → World → Prop} {Q : Exit → Act → World → Prop} (s x : Operand)
    (ho : o.op = .call { callee := .builtin .append, args := #[s, x], argTypes := #[33, 33] }) (B : Nat) (v : Value) (xs : List Int) (hs : a.eval s = v) (hown : Ints w B v xs)
    (u : Value) (ys : List Int) (hx : a.eval x = u) (hr : ReadsA w u ys) (hlen : xs.length + ys.length < 1000000000) (hB : B ≤ w.heap.size)
    (h : ∀ v' w', Ints w' B v' (xs ++ ys) → w.grownBy w' v.ownBlock → K (a.put o.dst v') w') : o.wp Tryd.prog a w K Q := by
  obtain ⟨i0, hi, hz0, hz1, hz2⟩ := info_parts infoInt
  rcases hr with ⟨rfl, rfl⟩ | ⟨ad, c, rfl, _, hc⟩
  · have hrun := run_append_owned_none (P := Tryd.prog) (w := w) B 33 o.type 3 i0 1 Tryd.underlying33 hi v xs.length _ hown
    unfold Oper.wp
    simp [execOp, ho, resolve, invoke, builtin, hs, hx, hrun, Result.andThen]
    exact h v w (by simpa using hown) (World.grownBy.refl w _)
  · obtain ⟨v', w', hrun, r1, r2, _⟩ := run_append_own (P := Tryd.prog) w B 33 o.type 3 i0 (.int .i64 0) 1 8 Tryd.underlying33 hi hz0 hz1 hz2 rfl (by decide) v xs.length _ hown ad ys.length c (ys.map (Value.int .i64)) (by simp)
      (fun j u hj => by
        rw [List.getElem?_map] at hj
        have hjl : j < ys.length := by
          rcases Nat.lt_or_ge j ys.length with h | h
          · exact h
          · rw [List.getElem?_eq_none h] at hj; cases hj
        rw [List.getElem?_eq_getElem hjl] at hj
        rw [hc j hjl]
        simpa using hj) (fun u hu => by
        obtain ⟨z, _, rfl⟩ := List.mem_map.1 hu
        rfl) (by unfold maxLen; omega) (by omega) hB
    unfold Oper.wp
    simp [execOp, ho, resolve, invoke, builtin, hs, hx, hrun, Result.andThen]
    refine h v' w' ?_ r2
    unfold Ints
    simpa using r1
theorem wpO_append_int {o : Oper} {a : Act} {w : World} {K : Act → World → Prop} {Q : Exit → Act → World → Prop} (s x : Operand)
    (ho : o.op = .call { callee := .builtin .append, args := #[s, x], argTypes := #[33, 33] }) (B : Nat) (v : Value) (xs : List Int) (hs : a.eval s = v) (hown : Ints w B v xs)
    (n : Int) (g c : Nat) (hx : a.eval x = .slice (some ⟨g, 0, none⟩) 1 c) (hc : w.cell? ⟨g, 0, none⟩ = some (.int .i64 n)) (hlen : xs.length < 1000000000) (hB : B ≤ w.heap.size)
    (h : ∀ v' w', Ints w' B v' (xs ++ [n]) → w.grownBy w' v.ownBlock → K (a.put o.dst v') w') : o.wp Tryd.prog a w K Q := by
  obtain ⟨i0, hi, hz0, hz1, hz2⟩ := info_parts infoInt
  obtain ⟨v', w', hrun, r1, r2, r3⟩ := run_append_own (P := Tryd.prog) w B 33 o.type 3 i0 (.int .i64 0) 1 8 Tryd.underlying33 hi hz0 hz1 hz2 rfl (by decide) v xs.length _ hown ⟨g, 0, none⟩ 1 c [.int .i64 n] rfl
    (fun j u hj => by
      obtain rfl : j = 0 := by
        cases j with
        | zero => rfl
        | succ j => simp at hj
      simp at hj; subst hj; exact hc) (fun u hu => by simp at hu; subst hu; rfl) (by unfold maxLen; omega) (by omega) hB
  unfold Oper.wp execOp
  simp only [ho, resolve, invoke, builtin, Sem.run_bind, Sem.run_pure, Result.andThen_ok, List.map_toArray, List.map_cons, List.map_nil, hs, hx, hrun]
  refine h v' w' ?_ r2
  unfold Ints
  simpa using r1
theorem exec_sub {ev : Operand → Value} {o : Oper} {x y : Operand} {a b : Int} {W : World} (ho : o.op = .binOp .sub 3 x y 3) (hx : ev x = .int .i64 a) (hy : ev y = .int .i64 b) (hc : IntKind.i64.wrap (a - b) = a - b) : (execOp ev o).run Tryd.prog W = .ok (.value (.int .i64 (a - b))) W := by
  simp [execOp, ho, hx, hy]
  go_simp
theorem exec_add {ev : Operand → Value} {o : Oper} {x y : Operand} {a b : Int} {W : World} (ho : o.op = .binOp .add 3 x y 3) (hx : ev x = .int .i64 a) (hy : ev y = .int .i64 b) (hc : IntKind.i64.wrap (a + b) = a + b) : (execOp ev o).run Tryd.prog W = .ok (.value (.int .i64 (a + b))) W := by
  simp [execOp, ho, hx, hy]
  go_simp
theorem exec_rem {ev : Operand → Value} {o : Oper} {x y : Operand} {a b z : Int} {W : World} (ho : o.op = .binOp .rem 3 x y 3) (hx : ev x = .int .i64 a) (hy : ev y = .int .i64 b) (hb : b ≠ 0) (hz : Int.tmod a b = z) (hc : IntKind.i64.wrap z = z) : (execOp ev o).run Tryd.prog W = .ok (.value (.int .i64 z)) W := by
  simp [execOp, ho, hx, hy]
  go_simp

theorem addO_app (b : Nat) : ∀ (xs ys : List Int) (n : Nat), addO b (xs ++ ys) n = match addO b xs n with | none => none | some k => addO b ys k
  | [], ys, n => rfl
  | x :: xs, ys, n => by
    rw [List.cons_append, addO, addO]
    split
    · exact addO_app b xs ys _
    · rfl
set_option maxHeartbeats 2000000 in
theorem rcomb_c (b : Int) (xs : List Int) (v : Value) (w : World) (hr : ReadsA w v xs) (hl : xs.length ≤ 1000000) :
    Calls Tryd.prog 18 #[.int .i64 b, v] w fun e w' => e = .returned (.tuple #[.int .i64 (combR b xs).1, .int .i64 (combR b xs).2]) ∧ w = w' := by
  have hwi := rin_c b 1 1000000000 w
  obtain ⟨p, c, rfl⟩ := hr.form
  unfold combR
  cases hb : inR b 1 1000000000 with
  | false =>
    rw [show (decide ((1 : Int) ≤ b) && decide (b ≤ 1000000000)) = false from hb] at hwi
    have HW := hid hwi
    clear hwi hr
    go_enter Tryd.func18, Tryd.ntmps18
    go_wp2_with (go_at_call 37; refine HW.out.mono ?_; rintro e w1 ⟨rfl, rfl⟩)
    go_ret2
    exact ⟨rfl, rfl⟩
  | true =>
    rw [show (decide ((1 : Int) ≤ b) && decide (b ≤ 1000000000)) = true from hb] at hwi
    have HW := hid hwi
    obtain ⟨h1, h2⟩ := (inR_iff _ _ _).1 hb
    obtain ⟨n, rfl⟩ : ∃ n : Nat, b = ((n : Nat) : Int) := ⟨b.toNat, by omega⟩
    rw [Int.toNat_natCast]
    obtain ⟨m, hm⟩ : ∃ m, xs.length = m := ⟨_, rfl⟩
    have HM := hid hm
    have HR := hid hr
    rw [hm] at HR ⊢
    rw [if_neg (by simp)]
    by_cases h30 : 30 < m
    · rw [if_pos h30]
      have d1 : decide ((30 : Int) < ((m : Nat) : Int)) = true := decide_eq_true (by omega)
      have d2 : (30 : Int) < ((m : Nat) : Int) := by omega
      clear hwi hr hb h1 h2 hm hl
      go_enter Tryd.func18, Tryd.ntmps18
      go_wp2_with (go_at_call 37; refine HW.out.mono ?_; rintro e w1 ⟨rfl, rfl⟩)
      go_ret2
      exact ⟨rfl, rfl⟩
    · rw [if_neg h30]
      have d1 : decide ((30 : Int) < ((m : Nat) : Int)) = false := decide_eq_false (by omega)
      have d2 : ¬ (30 : Int) < ((m : Nat) : Int) := by omega
      have hb1 : IntKind.i64.wrap (((n : Nat) : Int) - 1) = ((n : Nat) : Int) - 1 := IntWalk.i64_in _ (by omega)
      obtain ⟨r, hrr⟩ : ∃ r, addO n xs 0 = r := ⟨_, rfl⟩
      rw [hrr]
      have HRR := hid hrr
      have hn1 : 1 ≤ n ∧ n ≤ 1000000000 := by omega
      clear hwi hr hb h1 h2 hm hl hrr
      go_enter Tryd.func18, Tryd.ntmps18
      go_wp2_with (go_at_call 37; refine HW.out.mono ?_; rintro e w1 ⟨rfl, rfl⟩)
      go_loopw [6, 7] (fun nx ix wr => ∃ (i k : Nat), i ≤ m ∧ nx = .int .i64 ((k : Nat) : Int) ∧ k < n ∧ ix = .int .i64 ((i : Nat) : Int) ∧ addO n (xs.drop i) k = r ∧ wr = w) (fun _ ix _ => m - (intOf ix).toNat)
      case atStart => exact ⟨0, 0, by omega, rfl, by omega, rfl, by rw [List.drop_zero]; exact HRR.out, rfl⟩
      case round =>
        obtain ⟨i, k, hi, rfl, hk, rfl, hA, rfl⟩ := hrel
        rcases Nat.lt_or_ge i m with hlt | hge
        · have hin : decide (((i : Nat) : Int) < ((m : Nat) : Int)) = true := decide_eq_true (by omega)
          have hin' : ((i : Nat) : Int) < ((m : Nat) : Int) := by omega
          have hi0 : (0 : Int) ≤ ((i : Nat) : Int) := by omega
          have hiw : IntKind.i64.wrap (((i : Nat) : Int) + 1) = ((i + 1 : Nat) : Int) := (IntWalk.i64_in _ (by omega)).trans (by omega)
          have hiL : i < xs.length := by rw [HM.out]; exact hlt
          obtain ⟨bk, o, rfl, hbk, hcr⟩ := HR.out.at' hiL
          rw [List.drop_eq_getElem_cons hiL, addO] at hA
          obtain ⟨x, hx⟩ : ∃ x, xs[i] = x := ⟨_, rfl⟩
          rw [hx] at hA hcr
          have hwi := rin_c x 0 (((n : Nat) : Int) - 1)
          clear hx hbk
          by_cases hin2 : 0 ≤ x ∧ x ≤ ((n : Nat) : Int) - 1
          · rw [if_pos hin2] at hA
            have hbv : (decide (0 ≤ x) && decide (x ≤ ((n : Nat) : Int) - 1)) = true := by simp; omega
            simp only [hbv] at hwi
            obtain ⟨y, rfl⟩ : ∃ y : Nat, x = ((y : Nat) : Int) := ⟨x.toNat, by omega⟩
            rw [Int.toNat_natCast] at hA
            obtain ⟨z, hz⟩ : ∃ z, k + y = z := ⟨_, rfl⟩
            have hzw : IntKind.i64.wrap (((k : Nat) : Int) + ((y : Nat) : Int)) = ((z : Nat) : Int) := (IntWalk.i64_in _ (by omega)).trans (by omega)
            rw [hz] at hA
            have htm := tmod_nat z n
            have hzb : z % n < n := Nat.mod_lt _ (by omega)
            have hb0 : (((n : Nat) : Int) == 0) = false := by simp; omega
            have hb0' : ((n : Nat) : Int) ≠ 0 := by omega
            have hrw : IntKind.i64.wrap ((z % n : Nat) : Int) = ((z % n : Nat) : Int) := IntWalk.i64_in _ (by omega)
            have HW2 := hid hwi
            have HA := hid hA
            clear hwi hA hbv hin2
            go_wp2_with (go_at_call 37; refine (HW2.out _).mono ?_; rintro e w1 ⟨rfl, rfl⟩)
            go_roundw
            case rel => exact ⟨i + 1, z % n, by omega, by rw [Int.natCast_emod], hzb, rfl, HA.out, trivial⟩
            case measure => simp only [intOf, Int.toNat_natCast]; omega
          · rw [if_neg hin2] at hA
            have hbv : (decide (0 ≤ x) && decide (x ≤ ((n : Nat) : Int) - 1)) = false := by
              rw [Bool.eq_false_iff]
              simp
              omega
            simp only [hbv] at hwi
            have HW2 := hid hwi
            clear hwi hbv hin2
            subst hA
            go_wp2_with (go_at_call 37; refine (HW2.out _).mono ?_; rintro e w1 ⟨rfl, rfl⟩)
            go_ret2
            exact ⟨rfl, rfl⟩
        · obtain rfl : i = m := by omega
          have hin : ¬ ((i : Nat) : Int) < ((i : Nat) : Int) := by omega
          rw [List.drop_eq_nil_of_le (by rw [HM.out]; exact Nat.le_refl _), addO] at hA
          subst hA
          go_wp2_with fail
          go_ret2
          exact ⟨rfl, rfl⟩

set_option maxHeartbeats 4000000 in
theorem rsplit_c (v b : Int) (xs : List Int) (u : Value) (w : World) (hr : ReadsA w u xs) (hl : xs.length ≤ 1000000) (hbw : -9223372036854775808 ≤ b ∧ b ≤ 9223372036854775807) :
    Calls Tryd.prog 17 #[.int .i64 v, .int .i64 b, u] w fun e w' => ∃ l, e = .returned (.tuple #[l, .int .i64 (splitR v b xs).2]) ∧ Ints w' w.heap.size l (splitR v b xs).1 ∧ Below w.heap.size w w' := by
  have hnil : ∀ W : World, ∀ B, Ints W B (.slice none 0 0) [] := fun W B => ⟨rfl, .inl ⟨rfl, rfl⟩⟩
  have h1 := rin_c b 1 1000000000 w
  have h2 := rin_c v 0 (b - 1) w
  have hs1 : -9223372036854775808 ≤ b - 1 → IntKind.i64.wrap (b - 1) = b - 1 := fun h => IntWalk.i64_in _ (by omega)
  have hrc := rcomb_c b xs u w hr hl
  obtain ⟨p, c, rfl⟩ := hr.form
  unfold splitR
  have HN := hid hnil
  cases hb : inR b 1 1000000000 with
  | false =>
    rw [show (decide ((1 : Int) ≤ b) && decide (b ≤ 1000000000)) = false from hb] at h1
    have H1 := hid h1
    rw [if_pos (.inl rfl)]
    clear h1 h2 hr hnil hb hrc hs1
    go_enter Tryd.func17, Tryd.ntmps17
    go_wp2_with (go_at_call 37; refine H1.out.mono ?_; rintro e w1 ⟨rfl, rfl⟩)
    go_ret2
    exact ⟨_, rfl, HN.out _ _, Below.refl _ _⟩
  | true =>
    rw [show (decide ((1 : Int) ≤ b) && decide (b ≤ 1000000000)) = true from hb] at h1
    have H1 := hid h1
    obtain ⟨hb1, hb2⟩ := (inR_iff _ _ _).1 hb
    have hs := hs1 (by omega)
    have FL := hid trivial
    cases hv : inR v 0 (b - 1) with
    | false =>
      rw [show (decide ((0 : Int) ≤ v) && decide (v ≤ b - 1)) = false from hv] at h2
      have H2 := hid h2
      rw [if_pos (.inr rfl)]
      clear h1 h2 hr hnil hb hrc hs1 hv
      go_enter Tryd.func17, Tryd.ntmps17
      go_wp2_with (first
        | (go_at_call 37; have hq := FL; clear hq FL; refine H1.out.mono ?_; rintro e w1 ⟨rfl, rfl⟩)
        | (go_at_call 37; refine H2.out.mono ?_; rintro e w1 ⟨rfl, rfl⟩))
      go_ret2
      exact ⟨_, rfl, HN.out _ _, Below.refl _ _⟩
    | true =>
      rw [show (decide ((0 : Int) ≤ v) && decide (v ≤ b - 1)) = true from hv] at h2
      have H2 := hid h2
      obtain ⟨hv1, hv2⟩ := (inR_iff _ _ _).1 hv
      rw [if_neg (by simp)]
      have HC := hid hrc
      by_cases he : (combR b xs).2 = 0
      · rw [if_neg (by rw [he]; simp)]
        obtain ⟨BB, nn, hbb, hn, hnB⟩ := comb_ok b xs he hb
        obtain ⟨n, hnn⟩ : ∃ n, (combR b xs).1 = n := ⟨_, rfl⟩
        rw [he, hnn] at HC
        rw [hnn] at hn
        have hn01 : 0 ≤ n ∧ n < b := by omega
        have hsr := split_ref v b n (by omega) hn01
        rw [hnn, hsr]
        have hw1 : IntKind.i64.wrap (v - n) = v - n := IntWalk.i64_in _ (by omega)
        have hw2 : IntKind.i64.wrap (v - n + b) = v - n + b := IntWalk.i64_in _ (by omega)
        have htm : Int.tmod (v - n + b) b = (v - n + b) % b := Int.tmod_eq_emod_of_nonneg (by omega)
        have hm1 := Int.emod_nonneg (v - n + b) (show b ≠ 0 by omega)
        have hm2 := Int.emod_lt_of_pos (v - n + b) (show 0 < b by omega)
        have hw3 : IntKind.i64.wrap (Int.tmod (v - n + b) b) = Int.tmod (v - n + b) b := IntWalk.i64_in _ (by omega)
        have hb0 : b ≠ 0 := by omega
        obtain ⟨z, hz⟩ : ∃ z, Int.tmod (v - n + b) b = z := ⟨_, rfl⟩
        rw [hz] at hw3 ⊢
        have HZ := hid hz
        have HRA := hid hr
        obtain ⟨m, hm⟩ : ∃ m, xs.length = m := ⟨_, rfl⟩
        rw [hm] at HRA HC hl ⊢
        have HM := hid hm
        obtain ⟨u, hu⟩ : ∃ u, Value.slice p m c = u := ⟨_, rfl⟩
        rw [hu] at HRA HC ⊢
        have hnn0 : ((0 : Int) != 0) = false := rfl
        clear h1 h2 hr hnil hb hrc hs1 hv htm hm1 hm2 hz hm hu hsr hn hnB hbb hnn he
        go_enter Tryd.func17, Tryd.ntmps17
        go_upto_region 6 with (first
          | (go_at_call 37; have hq := FL; clear hq FL; refine H1.out.mono ?_; rintro e w1 ⟨rfl, rfl⟩)
          | (go_at_call 37; refine H2.out.mono ?_; rintro e w1 ⟨rfl, rfl⟩)
          | (go_at_call 18; refine HC.out.mono ?_; rintro e w1 ⟨rfl, rfl⟩))
        refine regD (fun _ => True) (fun _ => true) (by kernel_rfl) ?_
        have hS := trivial
        have hb0d : Below w.heap.size w w.drew := below_drewN (Below.refl _ _) 1
        generalize w.drew = V at hb0d ⊢
        refine takeE (i := 1) u (d := some 30) rfl (by kernel_rfl) (by kernel_rfl) (by kernel_rfl) (by kernel_rfl) (fun _ _ _ h => h) rfl (fun W hSw => by exact exec_mv rfl rfl) hS rfl ?_
        simp only [Act.put, List.setIfInBounds_toArray, List.set_cons_zero, List.set_cons_succ]
        refine takeE (i := 3) (.int .i64 v) (d := some 32) rfl (by kernel_rfl) (by kernel_rfl) (by kernel_rfl) (by kernel_rfl) (fun _ _ _ h => h) rfl (fun W hSw => by exact exec_mv rfl rfl) hS rfl ?_
        simp only [Act.put, List.setIfInBounds_toArray, List.set_cons_zero, List.set_cons_succ]
        refine takeE (i := 4) (.int .i64 n) (d := some 33) rfl (by kernel_rfl) (by kernel_rfl) (by kernel_rfl) (by kernel_rfl) (fun _ _ _ h => h) rfl (fun W hSw => by exact exec_mv rfl rfl) hS rfl ?_
        simp only [Act.put, List.setIfInBounds_toArray, List.set_cons_zero, List.set_cons_succ]
        refine takeE (i := 5) (.int .i64 (v - n)) (d := some 34) rfl (by kernel_rfl) (by kernel_rfl) (by kernel_rfl) (by kernel_rfl) (fun _ _ _ h => h) rfl (fun W hSw => by exact exec_sub rfl rfl rfl hw1) hS rfl ?_
        simp only [Act.put, List.setIfInBounds_toArray, List.set_cons_zero, List.set_cons_succ]
        refine takeE (i := 6) (.int .i64 b) (d := some 35) rfl (by kernel_rfl) (by kernel_rfl) (by kernel_rfl) (by kernel_rfl) (fun _ _ _ h => h) rfl (fun W hSw => by exact exec_mv rfl rfl) hS rfl ?_
        simp only [Act.put, List.setIfInBounds_toArray, List.set_cons_zero, List.set_cons_succ]
        refine takeE (i := 7) (.int .i64 (v - n + b)) (d := some 36) rfl (by kernel_rfl) (by kernel_rfl) (by kernel_rfl) (by kernel_rfl) (fun _ _ _ h => h) rfl (fun W hSw => by exact exec_add rfl rfl rfl hw2) hS rfl ?_
        simp only [Act.put, List.setIfInBounds_toArray, List.set_cons_zero, List.set_cons_succ]
        refine takeE (i := 8) (.int .i64 b) (d := some 37) rfl (by kernel_rfl) (by kernel_rfl) (by kernel_rfl) (by kernel_rfl) (fun _ _ _ h => h) rfl (fun W hSw => by exact exec_mv rfl rfl) hS rfl ?_
        simp only [Act.put, List.setIfInBounds_toArray, List.set_cons_zero, List.set_cons_succ]
        refine takeE (i := 9) (.int .i64 z) (d := some 38) rfl (by kernel_rfl) (by kernel_rfl) (by kernel_rfl) (by kernel_rfl) (fun _ _ _ h => h) rfl (fun W hSw => by exact exec_rem rfl rfl rfl hb0 HZ.out hw3) hS rfl ?_
        simp only [Act.put, List.setIfInBounds_toArray, List.set_cons_zero, List.set_cons_succ]
        obtain ⟨B0, hB0⟩ : ∃ B, w.heap.size = B := ⟨_, rfl⟩
        have hle : B0 ≤ V.heap.size := by rw [← hB0]; exact hb0d.size
        rw [hB0] at hb0d
        have HB0 := hid hB0
        have hl6 : xs.length < 1000000000 := by rw [HM.out]; omega
        have hl60 : ([] : List Int).length + xs.length < 1000000000 := by simpa using hl6
        have hb := hb0d
        clear hb0d hB0
        refine stepD2 0 10 (by kernel_rfl) rfl rfl rfl rfl (fun K hK => ?_) (fun K hK => ?_)
        · go_simp
          refine hK _ _ (fun _ => trivial) ?_
          clear hK K
          have hm := Ints.made V B0 hle
          have hal : Below V.heap.size V (V.alloc (.cells #[] 3)) := (Below.refl _ _).alloc (Nat.le_refl _) _
          have hbn := hb.trans (hal.mono hle)
          have hlen : B0 ≤ (V.alloc (.cells #[] 3)).heap.size := Nat.le_trans hle hal.size
          have hk0 : (V.alloc (.cells #[] 3)).heap.size = V.heap.size + 1 := by simp
          obtain ⟨k0, hkk⟩ : ∃ k, V.heap.size = k := ⟨_, rfl⟩
          rw [hkk] at hm hk0 ⊢
          have HK0 := hid hk0
          clear hk0
          generalize V.alloc (.cells #[] 3) = V1 at hm hbn hlen HK0 ⊢
          clear hb hle hal
          have hb := hbn
          have hle := hlen
          clear hbn hlen
          refine stepD2 2 10 (by kernel_rfl) rfl rfl rfl rfl (fun K hK => ?_) (fun K hK => ?_)
          · refine wpO_app_ints (.tmp 29) (.tmp 30) rfl B0 (.slice (some ⟨k0, 0, none⟩) 0 0) [] rfl hm _ xs rfl (HRA.out.below (HB0.out ▸ hb)) hl60 hle (fun v1 V2 hv1 hg1 => hK _ _ (fun _ => trivial) ?_)
            clear hK K
            rw [List.nil_append] at hv1
            have hbn := hb.grown hg1 hle (fun k hk => hm.own k hk)
            have hlen : B0 ≤ V2.heap.size := Nat.le_trans hle hg1.size
            clear hb hle hm
            have hb := hbn
            have hle := hlen
            clear hbn hlen
            refine stepD 10 (by kernel_rfl) rfl rfl (fun K hK => ?_)
            go_simp
            refine hK _ _ (fun _ => trivial) ?_
            clear hK K
            have hz := heap_alloc_new V2 (.cells #[.int .i64 z] 3)
            have hal : Below V2.heap.size V2 (V2.alloc (.cells #[.int .i64 z] 3)) := (Below.refl _ _).alloc (Nat.le_refl _) _
            have hbn := hb.trans (hal.mono hle)
            have hlen : B0 ≤ (V2.alloc (.cells #[.int .i64 z] 3)).heap.size := Nat.le_trans hle hal.size
            have hsz : (V2.alloc (.cells #[.int .i64 z] 3)).heap.size = V2.heap.size + 1 := by simp
            replace hv1 := hv1.below hal
            obtain ⟨y, hyk⟩ : ∃ k, V2.heap.size = k := ⟨_, rfl⟩
            rw [hyk] at hz hsz ⊢
            have HSZ := hid hsz
            clear hsz
            generalize V2.alloc (.cells #[.int .i64 z] 3) = V3 at hz hbn hlen HSZ hv1 ⊢
            clear hb hle hal
            have hb := hbn
            have hle := hlen
            clear hbn hlen
            refine stepD 11 (by kernel_rfl) rfl rfl (fun K hK => ?_)
            refine wpO_append_int (.tmp 31) (.tmp 39) rfl B0 v1 xs rfl hv1 z y 1 rfl (cell_of_row _ y 0 _ _ _ hz) hl6 hle (fun v2 W2 hv2 hg2 => hK _ _ (fun _ => trivial) ?_)
            clear hK K
            have hb2 := hb.grown hg2 hle (fun k hk => hv1.own k hk)
            refine stepD 12 (by kernel_rfl) rfl rfl (fun K hK => ?_)
            go_simp
            refine hK _ _ (fun _ => trivial) ?_
            clear hK K
            refine stepD 13 (by kernel_rfl) rfl rfl (fun K hK => ?_)
            go_simp
            refine hK _ _ (fun _ => trivial) ?_
            clear hK K
            refine doneD (by kernel_rfl) ?_ _
            refine OnlyNorm.normal ?_
            rename_i Q' K1 hK1 K hK
            change K _ _
            refine hK _ _ ?_
            clear hK K
            have HV2 := hid hv2
            have HBW2 := hid (HB0.out.symm ▸ hb2 : Below w.heap.size w W2)
            have HV3 := hid (HB0.out.symm ▸ hv2 : Ints W2 w.heap.size v2 (xs ++ [z]))
            clear hv2 hb2 hg2 hv1 hz hb hle hg1
            go_wp2_with fail
            go_ret2
            exact ⟨_, rfl, HV3.out, HBW2.out⟩
          · go_simp
            refine hK _ _ (fun _ => trivial) ?_
            clear hK K
            have hz := heap_alloc_new V1 (.cells #[.int .i64 z] 3)
            have hal : Below V1.heap.size V1 (V1.alloc (.cells #[.int .i64 z] 3)) := (Below.refl _ _).alloc (Nat.le_refl _) _
            have hbn := hb.trans (hal.mono hle)
            have hlen : B0 ≤ (V1.alloc (.cells #[.int .i64 z] 3)).heap.size := Nat.le_trans hle hal.size
            have hsz : (V1.alloc (.cells #[.int .i64 z] 3)).heap.size = V1.heap.size + 1 := by simp
            replace hm := hm.below hal
            obtain ⟨y, hyk⟩ : ∃ k, V1.heap.size = k := ⟨_, rfl⟩
            rw [hyk] at hz hsz ⊢
            have HSZ := hid hsz
            clear hsz
            generalize V1.alloc (.cells #[.int .i64 z] 3) = V2 at hz hbn hlen HSZ hm ⊢
            clear hb hle hal
            have hb := hbn
            have hle := hlen
            clear hbn hlen
            refine stepD 2 (by kernel_rfl) rfl rfl (fun K hK => ?_)
            refine wpO_app_ints (.tmp 29) (.tmp 30) rfl B0 (.slice (some ⟨k0, 0, none⟩) 0 0) [] rfl hm _ xs rfl (HRA.out.below (HB0.out ▸ hb)) hl60 hle (fun v1 V3 hv1 hg1 => hK _ _ (fun _ => trivial) ?_)
            clear hK K
            rw [List.nil_append] at hv1
            have hbn := hb.grown hg1 hle (fun k hk => hm.own k hk)
            have hlen : B0 ≤ V3.heap.size := Nat.le_trans hle hg1.size
            replace hz := (hg1.block y (heap_lt hz) (fun e => by have e' : y = k0 := (by simpa [Value.ownBlock] using e); have := HSZ.out; have := HK0.out; have := heap_lt hz; omega)).trans hz
            clear hb hle hm
            have hb := hbn
            have hle := hlen
            clear hbn hlen
            refine stepD 11 (by kernel_rfl) rfl rfl (fun K hK => ?_)
            refine wpO_append_int (.tmp 31) (.tmp 39) rfl B0 v1 xs rfl hv1 z y 1 rfl (cell_of_row _ y 0 _ _ _ hz) hl6 hle (fun v2 W2 hv2 hg2 => hK _ _ (fun _ => trivial) ?_)
            clear hK K
            have hb2 := hb.grown hg2 hle (fun k hk => hv1.own k hk)
            refine stepD 12 (by kernel_rfl) rfl rfl (fun K hK => ?_)
            go_simp
            refine hK _ _ (fun _ => trivial) ?_
            clear hK K
            refine stepD 13 (by kernel_rfl) rfl rfl (fun K hK => ?_)
            go_simp
            refine hK _ _ (fun _ => trivial) ?_
            clear hK K
            refine doneD (by kernel_rfl) ?_ _
            refine OnlyNorm.normal ?_
            rename_i Q' K1 hK1 K hK
            change K _ _
            refine hK _ _ ?_
            clear hK K
            have HV2 := hid hv2
            have HBW2 := hid (HB0.out.symm ▸ hb2 : Below w.heap.size w W2)
            have HV3 := hid (HB0.out.symm ▸ hv2 : Ints W2 w.heap.size v2 (xs ++ [z]))
            clear hv2 hb2 hg2 hv1 hz hb hle hg1
            go_wp2_with fail
            go_ret2
            exact ⟨_, rfl, HV3.out, HBW2.out⟩
        · go_simp
          refine hK _ _ (fun _ => trivial) ?_
          clear hK K
          have hz := heap_alloc_new V (.cells #[.int .i64 z] 3)
          have hal : Below V.heap.size V (V.alloc (.cells #[.int .i64 z] 3)) := (Below.refl _ _).alloc (Nat.le_refl _) _
          have hbn := hb.trans (hal.mono hle)
          have hlen : B0 ≤ (V.alloc (.cells #[.int .i64 z] 3)).heap.size := Nat.le_trans hle hal.size
          have hsz : (V.alloc (.cells #[.int .i64 z] 3)).heap.size = V.heap.size + 1 := by simp
          obtain ⟨y, hyk⟩ : ∃ k, V.heap.size = k := ⟨_, rfl⟩
          rw [hyk] at hz hsz ⊢
          have HSZ := hid hsz
          clear hsz
          generalize V.alloc (.cells #[.int .i64 z] 3) = V1 at hz hbn hlen HSZ ⊢
          clear hb hle hal
          have hb := hbn
          have hle := hlen
          clear hbn hlen
          refine stepD 0 (by kernel_rfl) rfl rfl (fun K hK => ?_)
          go_simp
          refine hK _ _ (fun _ => trivial) ?_
          clear hK K
          have hm := Ints.made V1 B0 hle
          have hal : Below V1.heap.size V1 (V1.alloc (.cells #[] 3)) := (Below.refl _ _).alloc (Nat.le_refl _) _
          have hbn := hb.trans (hal.mono hle)
          have hlen : B0 ≤ (V1.alloc (.cells #[] 3)).heap.size := Nat.le_trans hle hal.size
          have hk0 : (V1.alloc (.cells #[] 3)).heap.size = V1.heap.size + 1 := by simp
          replace hz := heap_below hal hz (heap_lt hz)
          obtain ⟨k0, hkk⟩ : ∃ k, V1.heap.size = k := ⟨_, rfl⟩
          rw [hkk] at hm hk0 ⊢
          have HK0 := hid hk0
          clear hk0
          generalize V1.alloc (.cells #[] 3) = V2 at hm hbn hlen HK0 hz ⊢
          clear hb hle hal
          have hb := hbn
          have hle := hlen
          clear hbn hlen
          refine stepD 2 (by kernel_rfl) rfl rfl (fun K hK => ?_)
          refine wpO_app_ints (.tmp 29) (.tmp 30) rfl B0 (.slice (some ⟨k0, 0, none⟩) 0 0) [] rfl hm _ xs rfl (HRA.out.below (HB0.out ▸ hb)) hl60 hle (fun v1 V3 hv1 hg1 => hK _ _ (fun _ => trivial) ?_)
          clear hK K
          rw [List.nil_append] at hv1
          have hbn := hb.grown hg1 hle (fun k hk => hm.own k hk)
          have hlen : B0 ≤ V3.heap.size := Nat.le_trans hle hg1.size
          replace hz := (hg1.block y (heap_lt hz) (fun e => by have e' : y = k0 := (by simpa [Value.ownBlock] using e); have := HSZ.out; have := HK0.out; have := heap_lt hz; omega)).trans hz
          clear hb hle hm
          have hb := hbn
          have hle := hlen
          clear hbn hlen
          refine stepD 11 (by kernel_rfl) rfl rfl (fun K hK => ?_)
          refine wpO_append_int (.tmp 31) (.tmp 39) rfl B0 v1 xs rfl hv1 z y 1 rfl (cell_of_row _ y 0 _ _ _ hz) hl6 hle (fun v2 W2 hv2 hg2 => hK _ _ (fun _ => trivial) ?_)
          clear hK K
          have hb2 := hb.grown hg2 hle (fun k hk => hv1.own k hk)
          refine stepD 12 (by kernel_rfl) rfl rfl (fun K hK => ?_)
          go_simp
          refine hK _ _ (fun _ => trivial) ?_
          clear hK K
          refine stepD 13 (by kernel_rfl) rfl rfl (fun K hK => ?_)
          go_simp
          refine hK _ _ (fun _ => trivial) ?_
          clear hK K
          refine doneD (by kernel_rfl) ?_ _
          refine OnlyNorm.normal ?_
          rename_i Q' K1 hK1 K hK
          change K _ _
          refine hK _ _ ?_
          clear hK K
          have HV2 := hid hv2
          have HBW2 := hid (HB0.out.symm ▸ hb2 : Below w.heap.size w W2)
          have HV3 := hid (HB0.out.symm ▸ hv2 : Ints W2 w.heap.size v2 (xs ++ [z]))
          clear hv2 hb2 hg2 hv1 hz hb hle hg1
          go_wp2_with fail
          go_ret2
          exact ⟨_, rfl, HV3.out, HBW2.out⟩
      · rw [if_pos he]
        have hne : ((combR b xs).2 != 0) = true := by simpa using he
        obtain ⟨q, hq⟩ : ∃ q, combR b xs = q := ⟨_, rfl⟩
        rw [hq] at HC hne ⊢
        obtain ⟨q1, q2⟩ := q
        have hne' : q2 ≠ 0 := by simpa using hne
        clear h1 h2 hr hnil hb hrc hs1 hv he hq
        go_enter Tryd.func17, Tryd.ntmps17
        go_wp2_with (first
          | (go_at_call 37; have hq := FL; clear hq FL; refine H1.out.mono ?_; rintro e w1 ⟨rfl, rfl⟩)
          | (go_at_call 37; refine H2.out.mono ?_; rintro e w1 ⟨rfl, rfl⟩)
          | (go_at_call 18; refine HC.out.mono ?_; rintro e w1 ⟨rfl, rfl⟩))
        go_ret2
        exact ⟨_, rfl, HN.out _ _, Below.refl _ _⟩
theorem sam_len (a b : Option Addr) (n m c d : Nat) (_hn : n ≤ 9223372036854775807) (_hm : m ≤ 9223372036854775807) (h : n ≠ m) (w : World) :
    Calls Tryd.prog 19 #[.slice a n c, .slice b m d] w fun e w' => e = .returned (.bool false) ∧ w = w' := by
  have h' : (((n : Nat) : Int) != ((m : Nat) : Int)) = true := by simp; omega
  clear h
  go_enter Tryd.func19, Tryd.ntmps19
  go_wp2_with fail
  go_ret
  exact ⟨rfl, rfl⟩

set_option maxHeartbeats 400000 in
theorem sam_zero (a b : Option Addr) (c d : Nat) (w : World) :
    Calls Tryd.prog 19 #[.slice a 0 c, .slice b 0 d] w fun e w' => e = .returned (.bool true) ∧ w = w' := by
  go_enter Tryd.func19, Tryd.ntmps19
  go_wp2_with fail
  go_loop [5] (fun i => i = .int .i64 0) (fun _ => 0)
  case atStart => rfl
  case round =>
    subst hrel
    go_wp2_with fail
    go_ret
    exact ⟨rfl, rfl⟩

set_option maxHeartbeats 400000 in
theorem sam_eq (g o g' o' c d N : Nat) (xs ys : List Int) (w : World) (hN : N ≤ 9223372036854775807) (hx : xs.length = N) (hy : ys.length = N)
    (h1 : ∀ k, k < N → w.cell? ⟨g, o + k, none⟩ = some (.int .i64 (xs.getD k 0))) (h2 : ∀ k, k < N → w.cell? ⟨g', o' + k, none⟩ = some (.int .i64 (ys.getD k 0))) :
    Calls Tryd.prog 19 #[.slice (some ⟨g, o, none⟩) N c, .slice (some ⟨g', o', none⟩) N d] w fun e w' => e = .returned (.bool (decide (xs = ys))) ∧ Below w.heap.size w w' := by
  have H1 := hid h1
  have H2 := hid h2
  have HX := hid hx
  have HY := hid hy
  clear h1 h2 hx hy
  have hne : (((N : Nat) : Int) != ((N : Nat) : Int)) = false := by simp
  go_enter Tryd.func19, Tryd.ntmps19
  go_wp2_with fail
  go_loopw [5] (fun i wr => ∃ k n : Nat, k ≤ N ∧ i = .int .i64 k ∧ wr = w.drewN n ∧ Aside (∀ j, j < k → xs.getD j 0 = ys.getD j 0)) (fun i _ => N - (intOf i).toNat)
  case atStart => exact ⟨0, 0, by omega, rfl, rfl, fun j h => absurd h (by omega)⟩
  case round =>
    obtain ⟨k, n, hk, rfl, rfl, A⟩ := hrel
    by_cases hlt : k < N
    · have hlt' : (k : Int) < N := by omega
      have hp0 : (0 : Int) ≤ k := by omega
      have c1 := H1.out k hlt
      have c2 := H2.out k hlt
      by_cases he : xs.getD k 0 = ys.getD k 0
      · have A2 := hid (show ∀ j, j < k + 1 → xs.getD j 0 = ys.getD j 0 from fun j h => by
          by_cases e : j = k
          · subst e; exact he
          · exact A.out j (by omega))
        generalize xs.getD k 0 = x at *
        generalize ys.getD k 0 = y at *
        subst he
        have hb : (x != x) = false := by simp
        go_wp2_with fail
        go_quiet (fail)
        go_wp2_with fail
        go_roundw
        case rel => exact ⟨k + 1, n + nq, by omega, by go_num, rfl, A2.out⟩
        case measure => simp [intOf]; omega
      · have hfin : decide (xs = ys) = false := by
          rw [decide_eq_false_iff_not]
          intro e; subst e; exact he rfl
        have Hfin := hid hfin
        generalize xs.getD k 0 = x at *
        generalize ys.getD k 0 = y at *
        have hb : (x != y) = true := by simp [he]
        clear hfin he
        go_wp2_with fail
        go_quiet (fail)
        go_wp2_with fail
        go_ret
        exact ⟨by rw [Hfin.out]; rfl, below_drewN (below_drewN (Below.refl _ _) _) _⟩
    · have hge : ¬ (k : Int) < N := by omega
      obtain rfl : k = N := by omega
      have hfin : decide (xs = ys) = true := by
        rw [decide_eq_true_iff]
        refine List.ext_getElem (by rw [HX.out, HY.out]) fun j h' h'' => ?_
        have := A.out j (by rw [← HX.out]; exact h')
        rwa [getD_lt _ _ h', getD_lt _ _ h''] at this
      have Hfin := hid hfin
      clear hfin
      go_wp2_with fail
      go_ret
      exact ⟨by rw [Hfin.out]; rfl, below_drewN (Below.refl _ _) _⟩

/-- Two slices that read as lists. -/
theorem sam_c (va vb : Value) (xs ys : List Int) (w : World) (ha : Reads w va xs) (hb : Reads w vb ys) (hx : xs.length ≤ 9223372036854775807) (hy : ys.length ≤ 9223372036854775807) :
    Calls Tryd.prog 19 #[va, vb] w fun e w' => e = .returned (.bool (decide (xs = ys))) ∧ Below w.heap.size w w' := by
  by_cases hl : xs.length = ys.length
  · rcases ha with ⟨rfl, a, c, rfl⟩ | ⟨g, o, c, rfl, _, h1⟩
    · rcases hb with ⟨rfl, b, d, rfl⟩ | ⟨g', o', d, rfl, _, h2⟩
      · exact (sam_zero a b c d w).mono fun e w' ⟨he, hw⟩ => ⟨by rw [he]; rfl, hw ▸ Below.refl _ _⟩
      · obtain rfl : ys = [] := List.eq_nil_of_length_eq_zero hl.symm
        exact (sam_zero a _ c d w).mono fun e w' ⟨he, hw⟩ => ⟨by rw [he]; rfl, hw ▸ Below.refl _ _⟩
    · rcases hb with ⟨rfl, b, d, rfl⟩ | ⟨g', o', d, rfl, _, h2⟩
      · obtain rfl : xs = [] := List.eq_nil_of_length_eq_zero hl
        exact (sam_zero _ b c d w).mono fun e w' ⟨he, hw⟩ => ⟨by rw [he]; rfl, hw ▸ Below.refl _ _⟩
      · rw [← hl]
        exact sam_eq g o g' o' c d _ xs ys w hx rfl hl.symm (fun k hk => by rw [getD_lt _ _ hk]; exact h1 k hk) (fun k hk => by rw [getD_lt _ _ (by omega)]; exact h2 k (by omega))
  · have hfin : decide (xs = ys) = false := by rw [decide_eq_false_iff_not]; rintro rfl; exact hl rfl
    rw [hfin]
    have hv : ∀ {v : Value} {zs : List Int}, Reads w v zs → ∃ a c, v = .slice a zs.length c := fun h => by
      rcases h with ⟨rfl, a, c, h⟩ | ⟨g, o, c, h, _⟩
      · exact ⟨a, c, h⟩
      · exact ⟨_, c, h⟩
    obtain ⟨a, c, rfl⟩ := hv ha
    obtain ⟨b, d, rfl⟩ := hv hb
    exact (sam_len a b _ _ c d hx hy hl w).mono fun e w' ⟨he, hw⟩ => ⟨he, hw ▸ Below.refl _ _⟩

end Go.Proofs.YtbcileppebpamaaDoor
