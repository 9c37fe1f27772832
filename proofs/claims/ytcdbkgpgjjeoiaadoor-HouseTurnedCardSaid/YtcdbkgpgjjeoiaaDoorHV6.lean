/- The law HouseBoth. -/
import Derived.Test.YtcdbkgpgjjeoiaaDoorHY
import Derived.Test.YtcdbkgpgjjeoiaaDoorHLE
import Derived.Test.YtcdbkgpgjjeoiaaDoorHRA
import Derived.Test.YtcdbkgpgjjeoiaaDoorH8
import Derived.Test.YtcdbkgpgjjeoiaaDoorHV5
namespace Go.Proofs.YtcdbkgpgjjeoiaaDoor
open Go Go.RowKit
set_option maxRecDepth 100000
set_option linter.unusedSimpArgs false
set_option linter.unusedVariables false

/-- Among the first j ties is z. -/
def inT (L : List Tie3) (z : Tie3) (j : Nat) : Bool := (L.take j).any fun t => t == z
theorem inT_step (L : List Tie3) (z : Tie3) (j : Nat) (hj : j < L.length) : inT L z (j + 1) = (inT L z j || L[j] == z) := by
  unfold inT
  rw [List.take_add_one, List.any_append, List.getElem?_eq_getElem hj]
  simp
theorem inT_all (L : List Tie3) (z : Tie3) (n : Nat) (hn : L.length = n) (h : z ∈ L) : inT L z n = true := by
  unfold inT
  rw [← hn, List.take_length, List.any_eq_true]
  exact ⟨z, h, by simp⟩
theorem tie3_eq (a b : Tie3) : (a == b) = (a.1 == b.1 && (a.2.1 == b.2.1 && a.2.2 == b.2.2)) := rfl
theorem beqS (x y : Nat) : ((((x + 1 : Nat)) : Int) == ((y + 1 : Nat) : Int)) = (x == y) := by
  by_cases h : x = y
  · subst h; simp
  · rw [beq_false_of_ne h]; simp; omega
theorem beqZ (x y : Nat) : (((x : Nat) : Int) == ((y : Nat) : Int)) = (x == y) := by
  by_cases h : x = y
  · subst h; simp
  · rw [beq_false_of_ne h]; simp; omega
theorem apN_pos (x a : Nat) (hx : x < 12) (ha : a < 12) (h : x ≠ a) : apN x a ≠ 0 := by
  have e : ∀ x a : Fin 12, x.1 ≠ a.1 → apN x.1 a.1 ≠ 0 := by decide +kernel
  exact e ⟨x, hx⟩ ⟨a, ha⟩ h
theorem readT_at {W : World} {p : Option Addr} {m c : Nat} {ts : List Tie3} (h : ReadsT W (.slice p m c) ts) : ∀ i (hi : i < ts.length), ∃ G, p = some ⟨G, 0, none⟩ ∧ G < W.heap.size ∧
    W.cell? ⟨G, i * 3, none⟩ = some (.int .i64 ((ts[i].1 : Nat) : Int)) ∧ W.cell? ⟨G, i * 3 + 1, none⟩ = some (.int .i64 ((ts[i].2.1 + 1 : Nat) : Int)) ∧ W.cell? ⟨G, i * 3 + 2, none⟩ = some (.int .i64 ((ts[i].2.2 + 1 : Nat) : Int)) := by
  obtain ⟨p', c', hv, hc⟩ := readT_form h
  injection hv with e1 e2 e3
  subst e1
  exact hc
set_option maxHeartbeats 8000000 in
theorem lawBoth (S : Nat → Nat) (A B : Nat) (hS : ∀ i, i < 12 → S i < 256) (hA : A < 256) (hB0 : B < 256) (w : World) (LH : LaidH w) :
    Calls Tryd.prog 5 #[.agg (u8row S A B)] w fun e w' => e = .returned (.bool true) ∧ Below w.heap.size w w' := by
  have HK := LH.known
  have HHo := hid (fun W => houses_c S A B hS hA hB0 W)
  have hh := skyH_lt S
  obtain ⟨ha12, hb12, hab⟩ := sky_ab A B
  generalize skyH S = h at *
  generalize skyA A = a at *
  generalize skyB A B = b at *
  obtain ⟨ai, hai⟩ : ∃ ai : Int, ((a : Nat) : Int) + 1 = ai := ⟨_, rfl⟩
  obtain ⟨bi, hbi⟩ : ∃ bi : Int, ((b : Nat) : Int) + 1 = bi := ⟨_, rfl⟩
  rw [hai, hbi] at HHo
  have ea : ai - 1 = ((a : Nat) : Int) := by omega
  have eb : bi - 1 = ((b : Nat) : Int) := by omega
  have hwa := wrap_nat a (by omega)
  have hwb := wrap_nat b (by omega)
  have ha0 : (0 : Int) ≤ a := by omega
  have ha1 : ((a : Nat) : Int) < 12 := by omega
  have hb0 : (0 : Int) ≤ b := by omega
  have hb1 : ((b : Nat) : Int) < 12 := by omega
  have HT1 := hid (fun W (hW : Below w.heap.size w W) => Ties_h_ok h hh a b ha12 hb12 hab ai bi hai.symm hbi.symm W (LH.B.below hW))
  have HT2 := hid (fun W (hW : Below w.heap.size w W) => Ties_h_ok h hh b a hb12 ha12 (Ne.symm hab) bi ai hbi.symm hai.symm W (LH.B.below hW))
  have HJ1 := hid (fun W (hW : Below w.heap.size w W) => Judge_h_ok h hh a b ha12 hb12 hab ai bi hai.symm hbi.symm W (LH.B.below hW))
  have HJ2 := hid (fun W (hW : Below w.heap.size w W) => Judge_h_ok h hh b a hb12 ha12 (Ne.symm hab) bi ai hbi.symm hai.symm W (LH.B.below hW))
  have HAp := hid (fun (x y : Nat) (hx : x < 12) (hy : y < 12) (s t : Int) (hs : s = ((x : Nat) : Int) + 1) (ht : t = ((y : Nat) : Int) + 1) (W : World) => apart_yes x y hx hy s t hs ht W)
  have hr1 := judgeN_range h a b
  have hr2 := judgeN_range h b a
  have hsw := judge_swap h a b
  have hle1 := judge_le2 h a b
  have hle2 := judge_le2 h b a
  have hlen := perm_len (ties_swap h a b)
  have HST := hid (fun t => tie_stands h a b t)
  have hnb : (tiesR h a b).length ≤ 1000000 := by rw [← tS_4]; have := tS_len h a b 4 0 0 (by omega) (by omega) (by omega); omega
  have HSW := hid (fun t (ht : t ∈ tiesR h a b) => (mem_swap h a b t).2 ht)
  generalize judgeN h a b = j1 at *
  generalize judgeN h b a = j2 at *
  generalize tiesR h a b = ts at *
  generalize tiesR h b a = ms at *
  obtain ⟨n, hn⟩ : ∃ n, ts.length = n := ⟨_, rfl⟩
  have hm : ms.length = n := by omega
  have HN := hid hn
  have HM := hid hm
  rw [hn] at hle1 hnb
  rw [hm] at hle2
  clear hlen hn hm
  have hnn : (((n : Nat) : Int) != ((n : Nat) : Int)) = false := by simp
  have d1 : decide (((j1 : Nat) : Int) < 1) = false := by simp; omega
  have d2 : decide (4 < ((j1 : Nat) : Int)) = false := by simp; omega
  have d3 : decide (((j2 : Nat) : Int) < 1) = false := by simp; omega
  have d4 : decide (4 < ((j2 : Nat) : Int)) = false := by simp; omega
  have q1 : ¬ ((j1 : Nat) : Int) < 1 := by omega
  have q2 : ¬ 4 < ((j1 : Nat) : Int) := by omega
  have q3 : ¬ ((j2 : Nat) : Int) < 1 := by omega
  have q4 : ¬ 4 < ((j2 : Nat) : Int) := by omega
  have h0 := heap_alloc_new w (.cells (u8row S A B) 42)
  have H0 := hid h0
  have hB : Below w.heap.size w (w.alloc (.cells (u8row S A B) 42)) := (Below.refl _ _).alloc (Nat.le_refl _) _
  have HHI := hid hh
  have HAI := hid hai
  have HBI := hid hbi
  clear LH hh hA hB0 hS h0 hai hbi hr1 hr2
  obtain ⟨g, hg⟩ : ∃ g, w.heap.size = g := ⟨_, rfl⟩
  by_cases hj : j1 ≤ 2
  · have hn0 : 0 < n := hle1.1 hj
    obtain rfl : j1 = j2 := hsw (.inl hj)
    have hz : (((j1 : Nat) : Int) != ((j1 : Nat) : Int)) = false := by simp
    have d5 : decide (((j1 : Nat) : Int) ≤ 2) = true := by simp; omega
    have d6 : decide (0 < ((n : Nat) : Int)) = true := by simp; omega
    have q5 : ((j1 : Nat) : Int) ≤ 2 := by omega
    have q6 : 0 < ((n : Nat) : Int) := by omega
    clear hsw hle1 hle2
    go_enter Tryd.func5, Tryd.ntmps5
    go_upto_region 1 with fail
    generalize w.alloc (.cells (u8row S A B) 42) = w1 at *
    rw [hg] at H0 hB HK HT1 HT2 HJ1 HJ2
    go_wp2_with (first
      | (refine ldsk _ rfl rfl _ rfl S A B _ H0.out ?_)
      | (go_at_call 20; refine (HHo.out _).mono ?_; rintro e w2 ⟨rfl, hb⟩; have hsz := hB.size; have hB := hB.trans (hb.mono (by omega)); have hsz2 := hB.size; have h2 := heap_alloc_new w2 (.cells (irow 12 fun _ => 0) 24); have hB3 := hB.alloc (show g ≤ w2.heap.size by omega) (.cells (irow 12 fun _ => 0) 24))
      | (simp only [zeros12]; refine strow arrHouses _ _ rfl rfl _ (cst h) rfl rfl _ _ h2 ?_; have hB := below_setRow hB3 (show g ≤ w2.heap.size by omega) (irow 12 (cst h)); have HX := hid (setRow_heap _ _ _ (irow 12 (cst h)) _ _ h2); clear h2 hB3; generalize w2.heap.size = kx at *; generalize World.setRow _ _ _ = ws at *)
      | (refine ldrow arrHouses _ rfl rfl _ rfl _ _ HX.out ?_)
      | (go_at_call_of 22 (Value.int .i64 ai); refine (HT1.out _ hB).mono ?_; rintro e w3 ⟨⟨v1, rfl, hR1⟩, hb⟩; obtain ⟨p1, c1, rfl, hC1⟩ := readT_form hR1; have hsz := hB.size; have HX := hid (heap_below hb HX.out (heap_lt HX.out)); have hB := hB.trans (hb.mono (by omega)); clear HT1)
      | (go_at_call 22; have HR1' := hid hR1; clear hR1 hC1; refine (HT2.out _ hB).mono ?_; rintro e w4 ⟨⟨v2, rfl, hR2⟩, hb⟩; have HR1 := hid (HR1'.out.below hb); have HR2 := hid hR2; clear HR1'; obtain ⟨p2, c2, rfl, hC2⟩ := readT_form hR2; clear hR2 hC2; have hsz := hB.size; have HX := hid (heap_below hb HX.out (heap_lt HX.out)); have hB := hB.trans (hb.mono (by omega)); clear HT2; rw [HN.out, HM.out])
      | (go_at_call_of 24 (Value.int .i64 ai); refine (HJ1.out _ hB).mono ?_; rintro e w5 ⟨rfl, hb⟩; have hsz := hB.size; have HX := hid (heap_below hb HX.out (heap_lt HX.out)); have hB := hB.trans (hb.mono (by omega)); have HR1 := hid (HR1.out.below hb); have HR2 := hid (HR2.out.below hb); clear HJ1)
      | (go_at_call 24; refine (HJ2.out _ hB).mono ?_; rintro e w6 ⟨rfl, hb⟩; have hsz := hB.size; have HX := hid (heap_below hb HX.out (heap_lt HX.out)); have hB := hB.trans (hb.mono (by omega)); have HR1 := hid (HR1.out.below hb); have HR2 := hid (HR2.out.below hb); clear HJ2))
    clear H0
    have HB0 := hid hB
    clear hB
    go_loopw [14] (fun i wr => ∃ j : Nat, j ≤ n ∧ i = .int .i64 j ∧ wr.heap[kx]? = some (.cells (irow 12 (cst h)) 24 (0, 0)) ∧ ReadsT wr (.slice p1 n c1) ts ∧ ReadsT wr (.slice p2 n c2) ms ∧ Below g w wr) (fun i _ => n - (intOf i).toNat)
    case atStart => exact ⟨0, by omega, rfl, HX.out, by rw [← HN.out]; exact HR1.out, by rw [← HM.out]; exact HR2.out, HB0.out⟩
    case round => as_aux_lemma =>
        clear HX HB0 HR1 HR2
        obtain ⟨j, hj', rfl, hx0, r1, r2, hB⟩ := hrel
        by_cases hlt : j < n
        · have hlt' : ((j : Nat) : Int) < n := by omega
          have hj0 : (0 : Int) ≤ j := by omega
          have hjl : j < ts.length := by rw [HN.out]; exact hlt
          have hjm : 0 < ms.length := by rw [HM.out]; exact hn0
          have r2' := r2
          obtain ⟨G, rfl, hG, a0, a1, a2⟩ := readT_at r1 j hjl
          have hc2 := readT_at r2
          have hst := HST.out ts[j] (List.getElem_mem hjl)
          have hsw := HSW.out ts[j] (List.getElem_mem hjl)
          generalize ts[j] = z at *
          obtain ⟨z0, x, y⟩ := z
          unfold swapT at hsw
          simp only at hst hsw a0 a1 a2
          obtain ⟨hx12, hy12, hst⟩ := hst
          obtain ⟨xi, hxi⟩ : ∃ xi : Int, ((x + 1 : Nat) : Int) = xi := ⟨_, rfl⟩
          obtain ⟨yi, hyi⟩ : ∃ yi : Int, ((y + 1 : Nat) : Int) = yi := ⟨_, rfl⟩
          rw [hxi] at a1
          rw [hyi] at a2
          have HXI := hid hxi
          have HYI := hid hyi
          have HSTJ := hid hst
          have HSWJ := hid hsw
          have hx1 := hx12
          have e1 : xi - 1 = ((x : Nat) : Int) := by omega
          have e2 : yi - 1 = ((y : Nat) : Int) := by omega
          have i1 : decide (xi < 1) = false := by simp; omega
          have i2 : decide (12 < xi) = false := by simp; omega
          have i3 : decide (yi < 1) = false := by simp; omega
          have i4 : decide (12 < yi) = false := by simp; omega
          have i1' : ¬ xi < 1 := by omega
          have i2' : ¬ 12 < xi := by omega
          have i3' : ¬ yi < 1 := by omega
          have i4' : ¬ 12 < yi := by omega
          have wx := wrap_nat x (by omega)
          have wy := wrap_nat y (by omega)
          have hx0' : (0 : Int) ≤ x := by omega
          have hy0' : (0 : Int) ≤ y := by omega
          have hx1' : ((x : Nat) : Int) < 12 := by omega
          have hy1' : ((y : Nat) : Int) < 12 := by omega
          have hba : Below wr.heap.size wr (wr.alloc (.cells #[.int .i64 ((z0 : Nat) : Int), .int .i64 xi, .int .i64 yi] 53)) := (Below.refl _ _).alloc (Nat.le_refl _) _
          have hsz := hB.size
          have hB7 := hB.alloc (show g ≤ wr.heap.size by omega) (.cells #[.int .i64 ((z0 : Nat) : Int), .int .i64 xi, .int .i64 yi] 53)
          have h7 := heap_alloc_new wr (.cells #[.int .i64 ((z0 : Nat) : Int), .int .i64 xi, .int .i64 yi] 53)
          have HX := hid (heap_below hba hx0 (heap_lt hx0))
          have HR1 := hid (r1.below hba)
          have HR2 := hid (r2'.below hba)
          have HC2 := hid (readT_at HR2.out)
          have HB7 := hid hB7
          have H7 := hid h7
          clear hx0 r1 r2 r2' hc2 hxi hyi hst hsw hj' hba hB7 h7 hB
          go_wp2_with fail
          obtain ⟨kt, hkt⟩ : ∃ kt, wr.heap.size = kt := ⟨_, rfl⟩
          rw [hkt] at H7 ⊢
          generalize wr.alloc (.cells #[.int .i64 ((z0 : Nat) : Int), .int .i64 xi, .int .i64 yi] 53) = w7 at *
          clear a0 a1 a2 hG hsz hkt
          have c0 : w7.cell? ⟨kt, 0, none⟩ = some (.int .i64 ((z0 : Nat) : Int)) := by rw [cell_of_row _ _ 0 _ _ (0, 0) H7.out]; rfl
          have c1 : w7.cell? ⟨kt, 1, none⟩ = some (.int .i64 xi) := by rw [cell_of_row _ _ 1 _ _ (0, 0) H7.out]; rfl
          have c2 : w7.cell? ⟨kt, 2, none⟩ = some (.int .i64 yi) := by rw [cell_of_row _ _ 2 _ _ (0, 0) H7.out]; rfl
          have hkl := heap_lt H7.out
          have hkxl := heap_lt HX.out
          go_loopw [16, 17] (fun fo ix wq => ∃ q m : Nat, q ≤ n ∧ ix = .int .i64 q ∧ fo = .bool (inT ms (z0, y, x) q) ∧ wq = w7.drewN m) (fun _ ix _ => n - (intOf ix).toNat)
          case atStart => exact ⟨0, 0, by omega, rfl, rfl, rfl⟩
          case round => as_aux_lemma =>
              obtain ⟨q, m, hq, rfl, rfl, rfl⟩ := hrel
              by_cases hqt : q < n
              · have hqt' : ((q : Nat) : Int) < n := by omega
                have hq0 : (0 : Int) ≤ q := by omega
                have hql : q < ms.length := by rw [HM.out]; exact hqt
                have HST := hid (inT_step ms (z0, y, x) q hql)
                cases hin : inT ms (z0, y, x) q with
                | true =>
                  rw [hin, Bool.true_or] at HST
                  clear hin
                  go_wp2_with fail
                  go_quiet (fail)
                  go_wp2_with fail
                  go_roundw
                  case rel => exact ⟨q + 1, m + nq, by omega, by go_num, by rw [HST.out], rfl⟩
                  case measure => simp [intOf]; omega
                | false =>
                  rw [hin, Bool.false_or, tie3_eq] at HST
                  clear hin
                  obtain ⟨G', hp', hG', b0, b1, b2⟩ := HC2.out q hql
                  subst hp'
                  have e0 := beqZ ms[q].1 z0
                  have e1 := beqS ms[q].2.1 y
                  have e2 := beqS ms[q].2.2 x
                  simp only at HST
                  rw [HYI.out] at e1
                  rw [HXI.out] at e2
                  generalize ms[q].1 = z0' at *
                  generalize ms[q].2.1 = x' at *
                  generalize ms[q].2.2 = y' at *
                  generalize (z0' == z0) = t0 at *
                  generalize (x' == y) = t1 at *
                  generalize (y' == x) = t2 at *
                  generalize ((x' + 1 : Nat) : Int) = xi' at *
                  generalize ((y' + 1 : Nat) : Int) = yi' at *
                  cases t0 with
                  | false =>
                    go_wp2_with fail
                    go_quiet (fail)
                    go_wp2_with fail
                    go_roundw
                    case rel => exact ⟨q + 1, m + nq, by omega, by go_num, by rw [HST.out]; rfl, rfl⟩
                    case measure => simp [intOf]; omega
                  | true =>
                    cases t1 with
                    | false =>
                      go_wp2_with fail
                      go_quiet (fail)
                      go_wp2_with fail
                      go_roundw
                      case rel => exact ⟨q + 1, m + nq, by omega, by go_num, by rw [HST.out]; rfl, rfl⟩
                      case measure => simp [intOf]; omega
                    | true =>
                      cases t2 with
                      | false =>
                        go_wp2_with fail
                        go_quiet (fail)
                        go_wp2_with fail
                        go_roundw
                        case rel => exact ⟨q + 1, m + nq, by omega, by go_num, by rw [HST.out]; rfl, rfl⟩
                        case measure => simp [intOf]; omega
                      | true =>
                        go_wp2_with fail
                        go_quiet (fail)
                        go_wp2_with fail
                        go_roundw
                        case rel => exact ⟨q + 1, m + nq, by omega, by go_num, by rw [HST.out]; rfl, rfl⟩
                        case measure => simp [intOf]; omega
              · have hge : ¬ ((q : Nat) : Int) < n := by omega
                have hfin : inT ms (z0, y, x) q = true := inT_all ms _ q (by rw [HM.out]; omega) HSWJ.out
                rw [hfin]
                have hBd := below_drewN HB7.out m
                have hXd : (w7.drewN m).heap[kx]? = some (.cells (irow 12 (cst h)) 24 (0, 0)) := HX.out
                have h1d := HR1.out.below (below_drewN (Below.refl _ _) m)
                have h2d := HR2.out.below (below_drewN (Below.refl _ _) m)
                have k0 : (w7.drewN m).cell? ⟨kt, 0, none⟩ = some (.int .i64 ((z0 : Nat) : Int)) := c0
                have k1 : (w7.drewN m).cell? ⟨kt, 1, none⟩ = some (.int .i64 xi) := c1
                have k2 : (w7.drewN m).cell? ⟨kt, 2, none⟩ = some (.int .i64 yi) := c2
                have hkd : kt < (w7.drewN m).heap.size := hkl
                have H8d : (w7.drewN m).heap[kt]? = some (.cells #[.int .i64 ((z0 : Nat) : Int), .int .i64 xi, .int .i64 yi] 53 (0, 0)) := H7.out
                clear H7
                clear c0 c1 c2 hkl hkxl HC2 hfin HSWJ
                generalize w7.drewN m = w8 at *
                have HXd := hid hXd
                have H1d := hid h1d
                have H2d := hid h2d
                have HAx := hid (fun W => HAp.out x y hx12 hy12 xi yi (by have := HXI.out; omega) (by have := HYI.out; omega) W)
                have HAa := hid (fun W => HAp.out x a hx12 ha12 xi ai (by have := HXI.out; omega) (by have := HAI.out; omega) W)
                have HAb := hid (fun W => HAp.out y b hy12 hb12 yi bi (by have := HYI.out; omega) (by have := HBI.out; omega) W)
                have fa0 := cell_irow hXd a ha12
                have fb0 := cell_irow hXd b hb12
                have fx0 := cell_irow hXd x hx12
                have fy0 := cell_irow hXd y hy12
                rw [cst_app] at fa0 fb0 fx0 fy0
                obtain ⟨ga, hga⟩ : ∃ ga, h a = ga := ⟨_, rfl⟩
                obtain ⟨gb, hgb⟩ : ∃ gb, h b = gb := ⟨_, rfl⟩
                obtain ⟨gx, hgx⟩ : ∃ gx, h x = gx := ⟨_, rfl⟩
                obtain ⟨gy, hgy⟩ : ∃ gy, h y = gy := ⟨_, rfl⟩
                have hst := HSTJ.out
                rw [hga] at fa0 hst
                rw [hgb] at fb0 hst
                rw [hgx] at fx0 hst
                rw [hgy] at fy0 hst
                have HZa := hid (fun e : x ≠ a => apN_pos x a hx12 ha12 e)
                have HZb := hid (fun e : y ≠ b => apN_pos y b hy12 hb12 e)
                generalize apN x y = dxy at *
                generalize apN x a = dxa at *
                generalize apN y b = dyb at *
                have hxa : x = a → gx = ga := fun e => by rw [← hgx, ← hga, e]
                have H8 := hid (show w8.heap[kt]? = some (.cells #[.int .i64 ((z0 : Nat) : Int), .int .i64 xi, .int .i64 yi] 53 (0, 0)) from H8d)
                have HST2 := hid (And.intro hst hxa)
                clear hXd h1d h2d HX HR1 HR2 HB7 HSTJ HST hga hgb hgx hgy hst hxa H8d
                go_wp2_with fail
                go_quiet (fail)
                have hBd := below_drewN hBd nq
                have HXd := hid (show (w8.drewN nq).heap[kx]? = some (.cells (irow 12 (cst h)) 24 (0, 0)) from HXd.out)
                have H1d := hid (H1d.out.below (below_drewN (Below.refl _ _) nq))
                have H2d := hid (H2d.out.below (below_drewN (Below.refl _ _) nq))
                have H8 := hid (show (w8.drewN nq).heap[kt]? = some (.cells #[.int .i64 ((z0 : Nat) : Int), .int .i64 xi, .int .i64 yi] 53 (0, 0)) from H8.out)
                have k0 : (w8.drewN nq).cell? ⟨kt, 0, none⟩ = some (.int .i64 ((z0 : Nat) : Int)) := k0
                have k1 : (w8.drewN nq).cell? ⟨kt, 1, none⟩ = some (.int .i64 xi) := k1
                have k2 : (w8.drewN nq).cell? ⟨kt, 2, none⟩ = some (.int .i64 yi) := k2
                have hkd : kt < (w8.drewN nq).heap.size := hkd
                clear fa0 fb0 fx0 fy0
                generalize w8.drewN nq = w9 at *
                go_upto_region 23 with (first
                  | (go_at_call_of 26 (Value.int .i64 ai); refine (HAa.out _).mono ?_; rintro e w10 ⟨rfl, hb⟩; have hsz := hBd.size; have hBd := hBd.trans (hb.mono (by omega)); have HXd := hid (heap_below hb HXd.out (heap_lt HXd.out)); have H1d := hid (H1d.out.below hb); have H2d := hid (H2d.out.below hb); have H8 := hid (heap_below hb H8.out (heap_lt H8.out)); have k0 := (bcell hb).1 kt 0 hkd |>.trans k0; have k1 := (bcell hb).1 kt 1 hkd |>.trans k1; have k2 := (bcell hb).1 kt 2 hkd |>.trans k2; have hkd := heap_lt H8.out)
                  | (go_at_call_of 26 (Value.int .i64 bi); refine (HAb.out _).mono ?_; rintro e w11 ⟨rfl, hb⟩; have hsz := hBd.size; have hBd := hBd.trans (hb.mono (by omega)); have HXd := hid (heap_below hb HXd.out (heap_lt HXd.out)); have H1d := hid (H1d.out.below hb); have H2d := hid (H2d.out.below hb); have H8 := hid (heap_below hb H8.out (heap_lt H8.out)); have k0 := (bcell hb).1 kt 0 hkd |>.trans k0; have k1 := (bcell hb).1 kt 1 hkd |>.trans k1; have k2 := (bcell hb).1 kt 2 hkd |>.trans k2; have hkd := heap_lt H8.out)
                  | (go_at_call 26; refine (HAx.out _).mono ?_; rintro e w12 ⟨rfl, hb⟩; have hsz := hBd.size; have hBd := hBd.trans (hb.mono (by omega)); have HXd := hid (heap_below hb HXd.out (heap_lt HXd.out)); have H1d := hid (H1d.out.below hb); have H2d := hid (H2d.out.below hb); have H8 := hid (heap_below hb H8.out (heap_lt H8.out)); have k0 := (bcell hb).1 kt 0 hkd |>.trans k0; have k1 := (bcell hb).1 kt 1 hkd |>.trans k1; have k2 := (bcell hb).1 kt 2 hkd |>.trans k2; have hkd := heap_lt H8.out))
                obtain ⟨hst, hxa⟩ := HST2.out
                clear HST2 HAa HAb HAx
                have hxai : x = a → xi = ai := fun e => by have h1 := HXI.out; have h2 := HAI.out; omega
                have hyai : y = b → yi = bi := fun e => by have h1 := HYI.out; have h2 := HBI.out; omega
                have hybn : y ≠ b → (yi != bi) = true := fun e => by have h1 := HYI.out; have h2 := HBI.out; simp; omega
                rcases hst with ⟨rfl, ex, ey, eg⟩ | ⟨rfl, hcj⟩ | ⟨rfl, ex, ey, ed, nx, ny⟩ | ⟨rfl, eg, n1, n2, d1', d2'⟩
                · as_aux_lemma =>
                    obtain rfl := hxai ex
                    obtain rfl := hyai ey
                    obtain rfl := eg
                    have b1 : (xi != xi) = false := by simp
                    have b2 : (yi != yi) = false := by simp
                    have b3 : (((gx : Nat) : Int) != ((gx : Nat) : Int)) = false := by simp
                    clear hxa hxai hyai hybn
                    go_wp2_with fail
                    go_roundw
                    case rel => exact ⟨j + 1, by omega, by go_num, HXd.out, H1d.out, H2d.out, hBd⟩
                    case measure => simp [intOf]; omega
                · by_cases hyb : y = b
                  · as_aux_lemma =>
                      have hd1 : gx = ga ∧ dxy = 1 := by
                        rcases hcj with ⟨_, h1, h2⟩ | ⟨h1, _, h2⟩
                        · exact ⟨h1, h2⟩
                        · exact ⟨hxa h1, h2⟩
                      obtain ⟨rfl, rfl⟩ := hd1
                      obtain rfl := hyai hyb
                      have b2 : (yi != yi) = false := by simp
                      have b3 : (((gx : Nat) : Int) != ((gx : Nat) : Int)) = false := by simp
                      clear hxa hxai hyai hybn hcj
                      go_wp2_with fail
                      go_roundw
                      case rel => exact ⟨j + 1, by omega, by go_num, HXd.out, H1d.out, H2d.out, hBd⟩
                      case measure => simp [intOf]; omega
                  · as_aux_lemma =>
                      have hd1 : x = a ∧ gy = gb ∧ dxy = 1 := by
                        rcases hcj with ⟨h0, _, _⟩ | h1
                        · exact absurd h0 hyb
                        · exact h1
                      obtain ⟨hx', rfl, rfl⟩ := hd1
                      obtain rfl := hxai hx'
                      have b1 := hybn hyb
                      have b2 : (xi != xi) = false := by simp
                      have b3 : (((gy : Nat) : Int) != ((gy : Nat) : Int)) = false := by simp
                      clear hxa hxai hyai hybn hcj
                      go_wp2_with fail
                      go_roundw
                      case rel => exact ⟨j + 1, by omega, by go_num, HXd.out, H1d.out, H2d.out, hBd⟩
                      case measure => simp [intOf]; omega
                · as_aux_lemma =>
                    obtain rfl := ex
                    obtain rfl := ey
                    obtain rfl := ed
                    have z1 := HZa.out nx
                    have z2 := HZb.out ny
                    have b1 : (((gx : Nat) : Int) != ((gx : Nat) : Int)) = false := by simp
                    have b2 : (((gy : Nat) : Int) != ((gy : Nat) : Int)) = false := by simp
                    have b3 : (((dxa : Nat) : Int) == 0) = false := by simp; omega
                    have b4 : (((dyb : Nat) : Int) == 0) = false := by simp; omega
                    clear hxa hxai hyai hybn HZa HZb
                    go_wp2_with fail
                    go_roundw
                    case rel => exact ⟨j + 1, by omega, by go_num, HXd.out, H1d.out, H2d.out, hBd⟩
                    case measure => simp [intOf]; omega
                · as_aux_lemma =>
                    obtain rfl := eg
                    obtain rfl := d1'
                    obtain rfl := d2'
                    have b1 : (((gx : Nat) : Int) != ((gx : Nat) : Int)) = false := by simp
                    have b2 : (((gx : Nat) : Int) == ((ga : Nat) : Int)) = false := by simp; omega
                    have b3 : (((gx : Nat) : Int) == ((gb : Nat) : Int)) = false := by simp; omega
                    clear hxa hxai hyai hybn HZa HZb
                    go_wp2_with fail
                    go_roundw
                    case rel => exact ⟨j + 1, by omega, by go_num, HXd.out, H1d.out, H2d.out, hBd⟩
                    case measure => simp [intOf]; omega
        · have hge : ¬ ((j : Nat) : Int) < n := by omega
          go_wp2_with (go_at_call 15; refine (HK.out _ hB).mono ?_; rintro e w9 ⟨rfl, hb⟩; have hsz := hB.size; have hB := hB.trans (hb.mono (by omega)))
          go_ret
          exact ⟨rfl, hg ▸ hB⟩
  · have hn0 : n = 0 := by have := mt hle1.2 hj; omega
    have hj2 : ¬ j2 ≤ 2 := fun e => hj (by have := hsw (.inr e); omega)
    subst hn0
    have d5 : decide (((j1 : Nat) : Int) ≤ 2) = false := by simp; omega
    have d5' : decide (((j2 : Nat) : Int) ≤ 2) = false := by simp; omega
    have q5 : ¬ ((j1 : Nat) : Int) ≤ 2 := by omega
    have q5' : ¬ ((j2 : Nat) : Int) ≤ 2 := by omega
    clear hsw hle1 hle2
    go_enter Tryd.func5, Tryd.ntmps5
    go_upto_region 1 with fail
    generalize w.alloc (.cells (u8row S A B) 42) = w1 at *
    rw [hg] at H0 hB HK HT1 HT2 HJ1 HJ2
    go_wp2_with (first
      | (refine ldsk _ rfl rfl _ rfl S A B _ H0.out ?_)
      | (go_at_call 20; refine (HHo.out _).mono ?_; rintro e w2 ⟨rfl, hb⟩; have hsz := hB.size; have hB := hB.trans (hb.mono (by omega)); have hsz2 := hB.size; have h2 := heap_alloc_new w2 (.cells (irow 12 fun _ => 0) 24); have hB3 := hB.alloc (show g ≤ w2.heap.size by omega) (.cells (irow 12 fun _ => 0) 24))
      | (simp only [zeros12]; refine strow arrHouses _ _ rfl rfl _ (cst h) rfl rfl _ _ h2 ?_; have hB := below_setRow hB3 (show g ≤ w2.heap.size by omega) (irow 12 (cst h)); have HX := hid (setRow_heap _ _ _ (irow 12 (cst h)) _ _ h2); clear h2 hB3; generalize w2.heap.size = kx at *; generalize World.setRow _ _ _ = ws at *)
      | (refine ldrow arrHouses _ rfl rfl _ rfl _ _ HX.out ?_)
      | (go_at_call_of 22 (Value.int .i64 ai); refine (HT1.out _ hB).mono ?_; rintro e w3 ⟨⟨v1, rfl, hR1⟩, hb⟩; obtain ⟨p1, c1, rfl, hC1⟩ := readT_form hR1; have hsz := hB.size; have HX := hid (heap_below hb HX.out (heap_lt HX.out)); have hB := hB.trans (hb.mono (by omega)); clear HT1)
      | (go_at_call 22; have HR1' := hid hR1; clear hR1 hC1; refine (HT2.out _ hB).mono ?_; rintro e w4 ⟨⟨v2, rfl, hR2⟩, hb⟩; have HR1 := hid (HR1'.out.below hb); have HR2 := hid hR2; clear HR1'; obtain ⟨p2, c2, rfl, hC2⟩ := readT_form hR2; clear hR2 hC2; have hsz := hB.size; have HX := hid (heap_below hb HX.out (heap_lt HX.out)); have hB := hB.trans (hb.mono (by omega)); clear HT2; rw [HN.out, HM.out])
      | (go_at_call_of 24 (Value.int .i64 ai); refine (HJ1.out _ hB).mono ?_; rintro e w5 ⟨rfl, hb⟩; have hsz := hB.size; have HX := hid (heap_below hb HX.out (heap_lt HX.out)); have hB := hB.trans (hb.mono (by omega)); have HR1 := hid (HR1.out.below hb); have HR2 := hid (HR2.out.below hb); clear HJ1)
      | (go_at_call 24; refine (HJ2.out _ hB).mono ?_; rintro e w6 ⟨rfl, hb⟩; have hsz := hB.size; have HX := hid (heap_below hb HX.out (heap_lt HX.out)); have hB := hB.trans (hb.mono (by omega)); have HR1 := hid (HR1.out.below hb); have HR2 := hid (HR2.out.below hb); clear HJ2))
    clear H0
    have HB0 := hid hB
    clear hB
    go_loopw [14] (fun i wr => i = .int .i64 0 ∧ Below g w wr) (fun i _ => 0)
    case atStart => exact ⟨rfl, HB0.out⟩
    case round => as_aux_lemma =>
        obtain ⟨rfl, hB⟩ := hrel
        go_wp2_with (go_at_call 15; refine (HK.out _ hB).mono ?_; rintro e w9 ⟨rfl, hb⟩; have hsz := hB.size; have hB := hB.trans (hb.mono (by omega)))
        go_ret
        exact ⟨rfl, hg ▸ hB⟩
end Go.Proofs.YtcdbkgpgjjeoiaaDoor
