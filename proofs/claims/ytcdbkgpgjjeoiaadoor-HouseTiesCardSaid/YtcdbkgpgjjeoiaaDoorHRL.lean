/- Walks of the reference of chapter 5: Least; walks of the laws: lists of ties and of aspects compared. -/
import Derived.Test.YtcdbkgpgjjeoiaaDoorHRA
import Derived.Test.YtcdbkgpgjjeoiaaDoorHLE
namespace Go.Proofs.YtcdbkgpgjjeoiaaDoor
open Go Go.RowKit
set_option maxRecDepth 100000
set_option linter.unusedSimpArgs false
set_option linter.unusedVariables false

/-- Two results. -/
theorem ret2 {P : Program} {fn : Func} {p q : Tmp} (h : fn.results = #[.tmp p, .tmp q]) {a : Act} {w : World} {R : Ending → World → Prop} (v1 v2 : Value)
    (h1 : a.tmps.getD p undef = v1) (h2 : a.tmps.getD q undef = v2) (hd : a.defers = []) (hR : R (.returned (.tuple #[v1, v2])) w) : bodyPost P fn R .ret a w := by
  refine bodyPost_ret (v := .tuple #[v1, v2]) ?_ hd hR
  have h1' : a.tmps[p]?.getD undef = v1 := by simpa using h1
  have h2' : a.tmps[q]?.getD undef = v2 := by simpa using h2
  simp [results, h, h1', h2']
set_option maxHeartbeats 4000000 in
theorem rLeast (h : Nat → Nat) (hh : ∀ i, i < 12 → h i < 16) (a b : Nat) (ha : a < 12) (hb : b < 12) (ai bi : Int) (ha' : ai = ((a : Nat) : Int) + 1) (hb' : bi = ((b : Nat) : Int) + 1) (w : World) :
    Calls Tryd.prog 28 #[.agg (irow 12 (cst h)), .int .i64 ai, .int .i64 bi] w fun e w' => e = .returned (.tuple #[.int .i64 ((lowN h a b 48 : Nat) : Int), .int .i64 ((highN h a b 48 : Nat) : Int)]) ∧ Below w.heap.size w w' := by
  have HJ := hid (fun (h : Nat → Nat) (hh : ∀ i, i < 12 → h i < 16) W => rJudge h hh a b ha hb ai bi ha' hb' W)
  have HH := hid hh
  have HR := hid (least_range h a b)
  have HJ0 := hid (show lowN h a b (4 * 0 + 0) = judgeN h a b ∧ highN h a b (4 * 0 + 0) = judgeN h a b from ⟨rfl, rfl⟩)
  have hj0 := judgeN_range h a b
  have H0 := hid (heap_alloc_new w (.cells (irow 12 (cst h)) 24))
  have hB : Below w.heap.size w (w.alloc (.cells (irow 12 (cst h)) 24)) := (Below.refl _ _).alloc (Nat.le_refl _) _
  clear hh ha hb ha' hb'
  obtain ⟨g, hg⟩ : ∃ g, w.heap.size = g := ⟨_, rfl⟩
  go_enter Tryd.func28, Tryd.ntmps28
  go_wp2_with fail
  generalize w.alloc (.cells (irow 12 (cst h)) 24) = w1 at *
  rw [hg] at H0 hB
  go_wp2_with (first
    | (refine ldrow arrHouses _ rfl rfl _ rfl _ _ H0.out ?_)
    | (go_at_call 33; refine (HJ.out h HH.out _).mono ?_; rintro e w2 ⟨rfl, hb⟩; have hsz := hB.size; have H2 := hid (heap_below hb H0.out (heap_lt H0.out)); have hB2 := hB.trans (hb.mono (by omega)); clear hb))
  clear H0 hB
  go_loopw [8, 9, 10] (fun p q i wr => ∃ k : Nat, k ≤ 12 ∧ i = .int .i64 k ∧ p = .int .i64 ((lowN h a b (4 * k + 0) : Nat) : Int) ∧ q = .int .i64 ((highN h a b (4 * k + 0) : Nat) : Int) ∧ wr.heap[g]? = some (.cells (irow 12 (cst h)) 24 (0, 0)) ∧ Below g w wr) (fun _ _ i _ => 12 - (intOf i).toNat)
  case atStart => exact ⟨0, by omega, rfl, by rw [HJ0.out.1], by rw [HJ0.out.2], H2.out, hB2⟩
  case round =>
    clear H2 hB2 HJ0
    obtain ⟨i, hi, rfl, rfl, rfl, hg0, hB⟩ := hrel
    have K0 := hid hg0
    have HB0 := hid hB
    clear hg0 hB
    by_cases hlt : i < 12
    · have hlt' : ((i : Nat) : Int) < 12 := by omega
      have hp0 : (0 : Int) ≤ i := by omega
      go_wp2_with fail
      go_loopw [8, 9, 11] (fun p q l wi => ∃ k : Nat, k ≤ 4 ∧ l = .int .i64 k ∧ p = .int .i64 ((lowN h a b (4 * i + k) : Nat) : Int) ∧ q = .int .i64 ((highN h a b (4 * i + k) : Nat) : Int) ∧ wi.heap[g]? = some (.cells (irow 12 (cst h)) 24 (0, 0)) ∧ Below g w wi) (fun _ _ l _ => 4 - (intOf l).toNat)
      case atStart => exact ⟨0, by omega, rfl, rfl, rfl, K0.out, HB0.out⟩
      case round =>
        clear K0 HB0
        obtain ⟨k, hk, rfl, rfl, rfl, hg0, hB⟩ := hrel
        have K0 := hid hg0
        have hlt0 := heap_lt hg0
        have hsz0 := hB.size
        have r1 := HR.out (4 * i + k)
        have hb1 : lowN h a b (4 * i + k) ≤ 4 := by omega
        have hb2 : highN h a b (4 * i + k) ≤ 4 := by omega
        clear hg0 r1
        by_cases hkt : k < 4
        · have hkt' : ((k : Nat) : Int) < 4 := by omega
          have hk0 : (0 : Int) ≤ k := by omega
          have HS1 := hid (lowN_step h a b i k hkt)
          have HS2 := hid (highN_step h a b i k hkt)
          have hjr := judgeN_range (flipN h i k) a b
          have HFl := hid (flipN_lt h HH.out i k hlt hkt)
          have hp16 : 2 ^ k < 2 ^ 4 := Nat.pow_lt_pow_right (by omega) hkt
          have hf16 := HH.out i hlt
          obtain ⟨f, hf⟩ : ∃ f, h i = f := ⟨_, rfl⟩
          obtain ⟨p, hp⟩ : ∃ p, 2 ^ k = p := ⟨_, rfl⟩
          rw [hf] at hf16
          rw [hp] at hp16
          have hpw : (2 : Int) ^ k = ((p : Nat) : Int) := by rw [← hp]; push_cast; rfl
          have hwp := wrap_nat p (by omega)
          have hwk := wrap_natU k (by omega)
          have HSum := hid (rSum f p hf16 (by omega))
          have HR1 := hid (flip_row h i k)
          rw [hf, hp] at HR1
          have HF := hid hf
          have HIm := hid (imin (lowN h a b (4 * i + k)) (judgeN (flipN h i k) a b))
          have HIx := hid (imax (highN h a b (4 * i + k)) (judgeN (flipN h i k) a b))
          obtain ⟨v, hv⟩ : ∃ v, f ^^^ p = v := ⟨_, rfl⟩
          rw [hv] at HR1 HSum
          clear hf hp hv
          generalize lowN h a b (4 * i + k) = lo at *
          generalize highN h a b (4 * i + k) = hi' at *
          have h2 := heap_alloc_new wr (.cells (irow 12 fun _ => 0) 24)
          have hB3 := hB.alloc (show g ≤ wr.heap.size by omega) (.cells (irow 12 fun _ => 0) 24)
          have K1 := hid ((heap_alloc_old wr (.cells (irow 12 fun _ => 0) 24) hlt0).trans K0.out)
          have K1' := hid ((setRow_other (wr.alloc (.cells (irow 12 fun _ => 0) 24)) wr.heap.size g (irow 12 (cst h)) (by omega)).trans K1.out)
          go_wp2_with (first
            | (refine ldrow arrHouses _ rfl rfl _ rfl _ _ K0.out ?_)
            | (simp only [zeros12]; refine ldrow arrHouses _ rfl rfl _ rfl _ _ K1.out ?_)
            | (simp only [zeros12]; refine strow arrHouses _ _ rfl rfl _ (cst h) rfl rfl _ _ h2 ?_; have hB := below_setRow hB3 (show g ≤ wr.heap.size by omega) (irow 12 (cst h)); have HX := hid (setRow_heap _ _ _ (irow 12 (cst h)) _ _ h2); clear h2 hB3; generalize wr.heap.size = kx at *; generalize World.setRow _ _ _ = ws at *;
                have c0 := cell_irow HX.out i hlt; rw [cst_app, HF.out] at c0)
            | (refine ldrow arrHouses _ rfl rfl _ rfl _ _ HX2.out ?_)
            | (go_at_call 52; refine (HSum.out _).mono ?_; rintro e w5 ⟨rfl, hb⟩; have hsz := hB.size; have HX5 := heap_below hb HX.out (heap_lt HX.out); have K5 := heap_below hb K1'.out (heap_lt K1'.out); have hB5 := hB.trans (hb.mono (by omega)); have c0 := cell_irow HX5 i hlt; rw [cst_app, HF.out] at c0; have fz := frozen_of_row _ _ i _ _ HX5;
                have q5 := set_irow HX5 i ((v : Nat) : Int); rw [HR1.out] at q5; have HX2 := hid q5; have K2 := hid ((heap_setCell_other w5 ⟨kx, i, none⟩ g (.int .i64 ((v : Nat) : Int)) (by show g ≠ kx; omega)).trans K5); have hB6 := hB5.setCell (p := ⟨kx, i, none⟩) (show g ≤ kx by omega) (.int .i64 ((v : Nat) : Int)); clear HX5 K5 hB5 q5 hb hB HX)
            | (go_at_call 33; refine (HJ.out (flipN h i k) HFl.out _).mono ?_; rintro e w8 ⟨rfl, hb⟩; have hsz := hB6.size; have K8 := hid (heap_below hb K2.out (heap_lt K2.out)); have hB8 := hB6.trans (hb.mono (by omega))))
          go_roundw
          case rel => exact ⟨k + 1, by omega, by go_num, by rw [HS1.out, ← HIm.out], by rw [HS2.out, ← HIx.out], K8.out, hB8⟩
          case measure => simp [intOf]; omega
        · have hge : ¬ ((k : Nat) : Int) < 4 := by omega
          obtain rfl : k = 4 := by omega
          have e4 : 4 * i + 4 = 4 * (i + 1) + 0 := by omega
          rw [e4] at hb1 hb2 ⊢
          generalize hlo : lowN h a b (4 * (i + 1) + 0) = lo at *
          generalize hhi : highN h a b (4 * (i + 1) + 0) = hi' at *
          have HLO := hid hlo
          have HHI := hid hhi
          clear hlo hhi e4
          go_wp2_with fail
          go_roundw
          case rel => exact ⟨i + 1, by omega, by go_num, by rw [HLO.out], by rw [HHI.out], K0.out, hB⟩
          case measure => simp [intOf]; omega
    · have hge : ¬ ((i : Nat) : Int) < 12 := by omega
      obtain rfl : i = 12 := by omega
      obtain ⟨lo, hlo⟩ : ∃ z, lowN h a b (4 * 12 + 0) = z := ⟨_, rfl⟩
      obtain ⟨hi', hhi⟩ : ∃ z, highN h a b (4 * 12 + 0) = z := ⟨_, rfl⟩
      rw [hlo, hhi]
      have HLO := hid hlo
      have HHI := hid hhi
      clear hlo hhi
      go_wp2_with fail
      refine ret2 Tryd.results28 _ _ rfl rfl rfl ?_
      exact ⟨by have h1 := HLO.out; have h2 := HHI.out; simp only [Nat.reduceMul, Nat.add_zero] at h1 h2; rw [h1, h2]; rfl, hg ▸ HB0.out⟩
set_option maxHeartbeats 1000000 in
theorem sameT_c (va vb : Value) (ts : List Tie3) (w : World) (hn : ts.length ≤ 1000000) (h1 : ReadsT w va ts) (h2 : ReadsT w vb ts) :
    Calls Tryd.prog 29 #[va, vb] w fun e w' => e = .returned (.bool true) ∧ Below w.heap.size w w' := by
  obtain ⟨p, c, rfl, hc⟩ := readT_form h1
  obtain ⟨p', c', rfl, hc'⟩ := readT_form h2
  obtain ⟨n, hn'⟩ : ∃ n, ts.length = n := ⟨_, rfl⟩
  have HN := hid hn'
  have HC := hid hc
  have HC' := hid hc'
  rw [hn'] at hn ⊢
  clear h1 h2 hc hc' hn'
  have hne : (((n : Nat) : Int) != ((n : Nat) : Int)) = false := by simp
  go_enter Tryd.func29, Tryd.ntmps29
  go_wp2_with fail
  go_loopw [5] (fun i wr => ∃ k m : Nat, k ≤ n ∧ i = .int .i64 k ∧ wr = w.drewN m) (fun i _ => n - (intOf i).toNat)
  case atStart => exact ⟨0, 0, by omega, rfl, rfl⟩
  case round =>
    obtain ⟨k, m, hk, rfl, rfl⟩ := hrel
    by_cases hlt : k < n
    · have hlt' : ((k : Nat) : Int) < n := by omega
      have hp0 : (0 : Int) ≤ k := by omega
      obtain ⟨G, rfl, hG, a0, a1, a2⟩ := HC.out k (by rw [HN.out]; exact hlt)
      obtain ⟨G', rfl, hG', b0, b1, b2⟩ := HC'.out k (by rw [HN.out]; exact hlt)
      have hkl : k < ts.length := by rw [HN.out]; exact hlt
      generalize ts[k].1 = z0 at *
      generalize ts[k].2.1 + 1 = z1 at *
      generalize ts[k].2.2 + 1 = z2 at *
      go_wp2_with fail
      go_quiet (fail)
      go_wp2_with fail
      go_roundw
      case rel => exact ⟨k + 1, m + nq, by omega, by go_num, rfl⟩
      case measure => simp [intOf]; omega
    · have hge : ¬ ((k : Nat) : Int) < n := by omega
      go_wp2_with fail
      go_ret
      exact ⟨rfl, below_drewN (Below.refl _ _) _⟩
set_option maxHeartbeats 1000000 in
theorem sameA_c (va vb : Value) (ts : List Tie3) (w : World) (hn : ts.length ≤ 1000000) (h1 : ReadsT w va ts) (h2 : ReadsT w vb ts) :
    Calls Tryd.prog 31 #[va, vb] w fun e w' => e = .returned (.bool true) ∧ Below w.heap.size w w' := by
  obtain ⟨p, c, rfl, hc⟩ := readT_form h1
  obtain ⟨p', c', rfl, hc'⟩ := readT_form h2
  obtain ⟨n, hn'⟩ : ∃ n, ts.length = n := ⟨_, rfl⟩
  have HN := hid hn'
  have HC := hid hc
  have HC' := hid hc'
  rw [hn'] at hn ⊢
  clear h1 h2 hc hc' hn'
  have hne : (((n : Nat) : Int) != ((n : Nat) : Int)) = false := by simp
  go_enter Tryd.func31, Tryd.ntmps31
  go_wp2_with fail
  go_loopw [5] (fun i wr => ∃ k m : Nat, k ≤ n ∧ i = .int .i64 k ∧ wr = w.drewN m) (fun i _ => n - (intOf i).toNat)
  case atStart => exact ⟨0, 0, by omega, rfl, rfl⟩
  case round =>
    obtain ⟨k, m, hk, rfl, rfl⟩ := hrel
    by_cases hlt : k < n
    · have hlt' : ((k : Nat) : Int) < n := by omega
      have hp0 : (0 : Int) ≤ k := by omega
      obtain ⟨G, rfl, hG, a0, a1, a2⟩ := HC.out k (by rw [HN.out]; exact hlt)
      obtain ⟨G', rfl, hG', b0, b1, b2⟩ := HC'.out k (by rw [HN.out]; exact hlt)
      have hkl : k < ts.length := by rw [HN.out]; exact hlt
      generalize ts[k].1 = z0 at *
      generalize ts[k].2.1 + 1 = z1 at *
      generalize ts[k].2.2 + 1 = z2 at *
      go_wp2_with fail
      go_quiet (fail)
      go_wp2_with fail
      go_roundw
      case rel => exact ⟨k + 1, m + nq, by omega, by go_num, rfl⟩
      case measure => simp [intOf]; omega
    · have hge : ¬ ((k : Nat) : Int) < n := by omega
      go_wp2_with fail
      go_ret
      exact ⟨rfl, below_drewN (Below.refl _ _) _⟩
end Go.Proofs.YtcdbkgpgjjeoiaaDoor
