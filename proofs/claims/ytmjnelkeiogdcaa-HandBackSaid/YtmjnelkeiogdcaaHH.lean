/- Walks of package hand: a choice is made. -/
import Derived.Test.YtmjnelkeiogdcaaHG
namespace Go.Proofs.Ytmjnelkeiogdcaa
open Go Go.RowKit Go.Shelf
set_option maxRecDepth 100000

/-- A state is stored into a box. -/
theorem storeS {P : Program} {V : World} {b : Nat} {t : TypeId} {u : Value} (h : Boxed V b t u) (s : St) : (storeCells ⟨b, 0, none⟩ [encS s]).run P V = .ok () (V.setCell ⟨b, 0, none⟩ (encS s)) := by
  have hc := h.cell
  have hf := h.frozen
  have h1 := run_store P V ⟨b, 0, none⟩ (encS s) .plain rfl
  rw [hc] at h1
  simp only [hf, Bool.false_eq_true, if_false] at h1
  simp only [storeCells, Sem.run_bind]
  rw [show (⟨b, 0, none⟩ : Addr).add 0 = ⟨b, 0, none⟩ from rfl, h1]
  rfl
/-- The state to which a choice leads. -/
def pick : List (Nat × St) → Nat → Option St
  | [], _ => none
  | x :: L, c => if c < x.1 then some x.2 else pick L (c - x.1)
def encO : Option St → Value
  | some t => encS t
  | none => .nilIface
theorem pick_append (L M : List (Nat × St)) (c : Nat) (h : sumW L ≤ c) : pick (L ++ M) c = pick M (c - sumW L) := by
  induction L generalizing c with
  | nil => simp [sumW]
  | cons x L ih =>
    have hs : sumW (x :: L) = x.1 + sumW L := by simp [sumW]
    rw [hs] at h ⊢
    simp only [List.cons_append, pick]
    rw [if_neg (by omega), ih _ (by omega)]
    congr 1
    omega
theorem alloc3_0 (W : World) (o1 o2 o3 : Obj) : (((W.alloc o1).alloc o2).alloc o3).heap[W.heap.size]? = some o1 := (Below.heap_alloc _ o3 _ (by simp; omega)).trans (alloc2_first W o1 o2)
theorem alloc3_1 (W : World) (o1 o2 o3 : Obj) : (((W.alloc o1).alloc o2).alloc o3).heap[W.heap.size + 1]? = some o2 := (Below.heap_alloc _ o3 _ (by simp)).trans (alloc2_second W o1 o2)
theorem alloc3_2 (W : World) (o1 o2 o3 : Obj) : (((W.alloc o1).alloc o2).alloc o3).heap[W.heap.size + 1 + 1]? = some o3 := by
  have := World.alloc_heap_new ((W.alloc o1).alloc o2) o3
  rwa [World.size_alloc, World.size_alloc] at this
theorem below3 (W : World) (o1 o2 o3 : Obj) : Below W.heap.size W (((W.alloc o1).alloc o2).alloc o3) := (below2 W o1 o2).alloc (by simp; omega) _
attribute [local go_sem] Oper.semAt_some
set_option maxHeartbeats 1000000 in
theorem choose_in (n : Nat) (hn : 8 ≤ n) (N : Nat) (H : HV) (fv cv : Value) (s : St) (hF : Fit H s) (c : Nat) (hc63 : c ≤ 9223372036854775807) (w : World) (hH : HandAt w N H fv cv) :
    CallsIn Fence.wide n Try.prog 70 #[.agg (handA H fv cv), encS s, .int .i64 ((c : Nat) : Int)] w fun e w' => e = .returned (encO (pick (brs H s) c)) ∧ Below w.heap.size w w' := by
  have h1 : 1 ≤ n := by omega
  have hNg := hH.le
  have hx := alloc3_0 w (.cells (handA H fv cv) 26) (.cells #[.int .i64 ((c : Nat) : Int)] 3) (.cells #[.nilIface] 71)
  have hy := alloc3_1 w (.cells (handA H fv cv) 26) (.cells #[.int .i64 ((c : Nat) : Int)] 3) (.cells #[.nilIface] 71)
  have hz := alloc3_2 w (.cells (handA H fv cv) 26) (.cells #[.int .i64 ((c : Nat) : Int)] 3) (.cells #[.nilIface] 71)
  have hb := below3 w (.cells (handA H fv cv) 26) (.cells #[.int .i64 ((c : Nat) : Int)] 3) (.cells #[.nilIface] 71)
  have hs2 : (((w.alloc (.cells (handA H fv cv) 26)).alloc (.cells #[.int .i64 ((c : Nat) : Int)] 3)).alloc (.cells #[.nilIface] 71)).heap.size = w.heap.size + 3 := by simp
  have hH2 : HandAt (((w.alloc (.cells (handA H fv cv) 26)).alloc (.cells #[.int .i64 ((c : Nat) : Int)] 3)).alloc (.cells #[.nilIface] 71)) N H fv cv := hH.below (hb.mono hH.le)
  have HX := hid hx
  have HY := hid hy
  have HZ := hid hz
  have HB := hid hb
  have HBR := hid (branches_c N H fv cv s _ hH2)
  have hc0 : decide (((c : Nat) : Int) < 0) = false := by simp
  refine callsIn_of_wp_marks Try.func70 rfl trivial ?_ rfl
  simp only [Try.ntmps70, List.size_toArray, List.length_cons, List.length_nil, Nat.reduceAdd, Nat.reduceSub, Array.replicate_succ, Array.replicate_zero, List.push_toArray, List.append_toArray, List.nil_append, List.cons_append]
  clear hx hy hz hb hH hH2
  gi_wp2_with (first
    | (refine wpListIn_value lets_wide rfl (by intro c hc; cases hc) (.agg (handA H fv cv)) (exec_ldhand rfl rfl HX.out) ?_)
    | (refine wpListIn_enter lets_wide rfl (by intro c hc; cases hc) (inv_br _ _ _ _ rfl rfl rfl _) ?_; refine HBR.out.mono ?_; rintro e W ⟨rfl, hb2, hsz2, hbr⟩; refine ⟨_, rfl, ?_⟩))
  have HX := hid (heap_below hb2 HX.out (heap_lt HX.out))
  have HY := hid (heap_below hb2 HY.out (heap_lt HY.out))
  have HZ := hid (heap_below hb2 HZ.out (heap_lt HZ.out))
  have HB := hid (HB.out.trans (hb2.mono (by rw [hs2]; omega)))
  rw [hs2] at hbr hsz2
  have hSQ := br_seq (n - 1) (by omega) N (w.heap.size + 3) (w.heap.size + 3 + 1) (w.heap.size + 3) (w.heap.size + 3 + 2) ⟨by omega, by omega⟩ ⟨by omega, by omega⟩ H fv cv s hF W hbr
  obtain ⟨g, hg⟩ : ∃ g, w.heap.size = g := ⟨_, rfl⟩
  rw [hg] at hNg HX HY HZ HB hSQ hsz2 ⊢
  rw [hs2, hg]
  clear hb2 hbr HBR hs2
  gi_wp2_with fail
  apply rg_outA rfl h1 (gf := brC s) (lb := brL s (g + 3) (g + 3 + 1)) rfl trivial (brC_enters s) hSQ (fun _ => rfl)
    (fun pre V => sumW pre ≤ c ∧ Boxed V (g + 1) 3 (.int .i64 ((c - sumW pre : Nat) : Int)) ∧ Boxed V (g + 1 + 1) 71 .nilIface ∧ Below g w V)
    (fun q pre V => q = .ret ∧ Boxed V (g + 1 + 1) 71 (encO (pick (brs H s) c)) ∧ Below g w V)
    (fun pre => (Abd.pure _ _).and ((Abd.boxed _ _ _ _).and ((Abd.boxed _ _ _ _).and (Abd.belowOf (by omega) (by omega))))) (fun _ _ => (Abd.pure _ _).and ((Abd.boxed _ _ _ _).and (Abd.belowOf (by omega) (by omega)))) (fun _ _ => Abd.pure _ _)
    ⟨by simp [sumW], by rw [show c - sumW [] = c by simp [sumW]]; exact HY.out, HZ.out, HB.out⟩
  case hassign =>
    intro l pre x V K hi ho hK
    simp only [brEnc]
    gi_wp2_with fail
    first | rfl | exact hK _ rfl
  case hbody =>
    rintro l pre x V hl hr ⟨hle, hbx, hbz, hB⟩ ⟨rest, hrest⟩
    have hpk : pick (brs H s) c = pick (x :: rest) (c - sumW pre) := by rw [hrest]; exact pick_append pre (x :: rest) c hle
    have hap := sumW_append pre x
    have hc := hbx.cell
    have hf := hbx.frozen
    have hcz := hbz.cell
    have hfz := hbz.frozen
    obtain ⟨c1, hc1⟩ : ∃ c1, c - sumW pre = c1 := ⟨_, rfl⟩
    obtain ⟨wt, hwt⟩ : ∃ wt, x.1 = wt := ⟨_, rfl⟩
    simp only [pick] at hpk
    rw [hc1, hwt] at hpk
    rw [hc1] at hc hbx
    rw [hwt] at hap
    by_cases hlt : c1 < wt
    · rw [if_pos hlt] at hpk
      have hd : decide (((c1 : Nat) : Int) < ((wt : Nat) : Int)) = true := by simp; omega
      have hd' : ((c1 : Nat) : Int) < ((wt : Nat) : Int) := by omega
      have HBX := hid (show Boxed (V.setCell ⟨g + 1 + 1, 0, none⟩ (encS x.2)) (g + 1 + 1) 71 (encO (pick (brs H s) c)) by rw [hpk]; exact hbz.set _)
      have HKL := hid ((KeepsL.refl V).setCell (i := 0) (encS x.2) hbz)
      have hst := storeS (P := Try.prog) hbz x.2
      have HB2 := hid (hB.setCell (p := ⟨g + 1 + 1, 0, none⟩) (show g ≤ g + 1 + 1 by omega) (encS x.2))
      clear hle hap hbx hbz hrest hB hpk hlt
      subst hwt
      gi_wp2_with fail
      rw [hst]
      gi_wp2_with fail
      exact ⟨HKL.out.r l, rfl, HBX.out, HB2.out⟩
    · have hd : decide (((c1 : Nat) : Int) < ((wt : Nat) : Int)) = false := by simp; omega
      have hd' : ¬ ((c1 : Nat) : Int) < ((wt : Nat) : Int) := by omega
      obtain ⟨c2, hc2⟩ : ∃ c2, c1 - wt = c2 := ⟨_, rfl⟩
      have e1 : ((c1 : Nat) : Int) - ((wt : Nat) : Int) = ((c2 : Nat) : Int) := by omega
      have w1 := wrap_nat c2 (by omega)
      have HLE := hid (show sumW (pre ++ [x]) ≤ c ∧ c - sumW (pre ++ [x]) = c2 by omega)
      have HBX := hid (show Boxed (V.setCell ⟨g + 1, 0, none⟩ (.int .i64 ((c2 : Nat) : Int))) (g + 1) 3 (.int .i64 ((c2 : Nat) : Int)) from hbx.set _)
      have HBZ := hid (Boxed.other hbz (show g + 1 + 1 ≠ g + 1 by omega) (.int .i64 ((c2 : Nat) : Int)))
      have HKL := hid ((KeepsL.refl V).setCell (i := 0) (.int .i64 ((c2 : Nat) : Int)) hbx)
      have HKS := hid ((KeptS.refl (SBr N (g + 3) (g + 3 + 2)) V).setCell (b := g + 1) (i := 0) (.int .i64 ((c2 : Nat) : Int)) (by unfold SBr; omega))
      have HB2 := hid (hB.setCell (p := ⟨g + 1, 0, none⟩) (show g ≤ g + 1 by omega) (.int .i64 ((c2 : Nat) : Int)))
      clear hle hap hbx hbz hrest hB hpk hlt hc1 hc2 hcz hfz
      subst hwt
      gi_wp2_with fail
      exact ⟨HKL.out, HKS.out, HLE.out.1, by rw [HLE.out.2]; exact HBX.out, HBZ.out, HB2.out⟩
  case hdone =>
    rintro D xs V hD rfl ⟨hle, hbx, hbz, hB⟩ hmk
    have hpk : pick (brs H s) c = none := by
      have := pick_append (brs H s) [] c hle
      rwa [List.append_nil] at this
    have hcz := hbz.cell
    have hfz := hbz.frozen
    have HBX := hid (hbz.set .nilIface)
    have HB2 := hid (hB.setCell (p := ⟨g + 1 + 1, 0, none⟩) (show g ≤ g + 1 + 1 by omega) .nilIface)
    have hne : g + 1 + 1 ≠ D := by omega
    have HPK := hid hpk
    clear hbx hbz hB hle hpk
    gi_wp2_with fail
    refine leaves_marks g [D] _ (by simp) (fun D' hD' => ?_) (fun W' hb' hc' => ?_)
    · obtain rfl : D' = D := by simpa using hD'
      exact ⟨(heap_setCell_other V ⟨g + 1 + 1, 0, none⟩ D' _ (show D' ≠ g + 1 + 1 by omega)).trans hmk, by omega⟩
    · exact ⟨_, results_cell Try.results70 rfl Try.isAgg71 (hc' _ _ HBX.out rfl), by rw [HPK.out]; rfl, by rw [hg]; exact HB2.out.trans hb'⟩
  case hstop =>
    rintro D q pre V hD ⟨rfl, hbz, hB⟩ hmk
    have HBZ := hid hbz
    have HB2 := hid hB
    clear hbz hB
    gi_wp2_with fail
    refine leaves_marks g [D] _ (by simp) (fun D' hD' => ?_) (fun W' hb' hc' => ?_)
    · obtain rfl : D' = D := by simpa using hD'
      exact ⟨hmk, by omega⟩
    · exact ⟨_, results_cell Try.results70 rfl Try.isAgg71 (hc' _ _ HBZ.out rfl), rfl, by rw [hg]; exact HB2.out.trans hb'⟩
theorem choices_c (N : Nat) (H : HV) (fv cv : Value) (s : St) (hF : Fit H s) (w : World) (hH : HandAt w N H fv cv) :
    Calls Try.prog 63 #[.agg (handA H fv cv), encS s] w fun e w' => e = .returned (.int .i64 ((chN H s : Nat) : Int)) ∧ Below w.heap.size w w' :=
  callsIn_wide.1 (choices_in 8 (Nat.le_refl _) N H fv cv s hF w hH)
theorem choose_c (N : Nat) (H : HV) (fv cv : Value) (s : St) (hF : Fit H s) (c : Nat) (hc63 : c ≤ 9223372036854775807) (w : World) (hH : HandAt w N H fv cv) :
    Calls Try.prog 70 #[.agg (handA H fv cv), encS s, .int .i64 ((c : Nat) : Int)] w fun e w' => e = .returned (encO (pick (brs H s) c)) ∧ Below w.heap.size w w' :=
  callsIn_wide.1 (choose_in 8 (Nat.le_refl _) N H fv cv s hF c hc63 w hH)
theorem choose_neg (H : HV) (fv cv : Value) (s : St) (c : Int) (hc : c < 0) (w : World) :
    Calls Try.prog 70 #[.agg (handA H fv cv), encS s, .int .i64 c] w fun e w' => e = .returned .nilIface ∧ Below w.heap.size w w' := by
  have hz := alloc3_2 w (.cells (handA H fv cv) 26) (.cells #[.int .i64 c] 3) (.cells #[.nilIface] 71)
  have hb := below3 w (.cells (handA H fv cv) 26) (.cells #[.int .i64 c] 3) (.cells #[.nilIface] 71)
  have hbx : Boxed _ (w.heap.size + 1 + 1) 71 .nilIface := hz
  have hd : decide (c < 0) = true := by simp [hc]
  have HBX := hid hbx
  have HB2 := hid hb
  refine (callsIn_wide (n := 8)).1 ?_
  refine callsIn_of_wp_marks Try.func70 rfl trivial ?_ rfl
  simp only [Try.ntmps70, List.size_toArray, List.length_cons, List.length_nil, Nat.reduceAdd, Nat.reduceSub, Array.replicate_succ, Array.replicate_zero, List.push_toArray, List.append_toArray, List.nil_append, List.cons_append]
  clear hz hb hbx
  gi_wp2_with fail
  refine leaves_marks w.heap.size [] _ (by simp) (fun D' hD' => by simp at hD') (fun W' hb' hc' => ?_)
  exact ⟨_, results_cell Try.results70 rfl Try.isAgg71 (hc' _ _ HBX.out rfl), rfl, HB2.out.trans hb'⟩
end Go.Proofs.Ytmjnelkeiogdcaa
